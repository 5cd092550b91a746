import Derived.Test.YtbdcomkbpapcaaaGreatGfT
/-
  Greatest families, the reference's side: all allowed assignments in order, what a list must have for an assignment. Conditions: at most 60 clauses of literals within 12, at most six variables.
-/

namespace Go.Proofs.YtbdcomkbpapcaaaGreat
open Go.RowKit Seed
theorem rowR_nil {w : World} {b : Nat} (hb : w.heap[b]? = some (.cells #[] 3 (0, 0))) : RowR w (.slice (some ⟨b, 0, none⟩) 0 0, []) :=
  ⟨⟨rfl, some ⟨b, 0, none⟩, 0, rfl, Nat.le_refl _, Nat.zero_le _, fun j u hu => by simp [ints] at hu⟩, ⟨b, 0, none⟩, 0, rfl, #[], _, hb⟩
theorem rows_take_len {xss : List (List Int)} {zs : List Row} (h : zs.map Prod.snd = xss) : zs.length = xss.length := by rw [← h, List.length_map]
theorem ins_z {zs : List Row} {u : Value} {ys : List Int} {k : Nat} : (zs.take k ++ (u, ys) :: zs.drop k).map Prod.snd = (zs.map Prod.snd).take k ++ ys :: (zs.map Prod.snd).drop k := by simp [List.map_take, List.map_drop]
theorem ins_rows {w : World} {zs : List Row} {u : Value} {ys : List Int} {k : Nat} (h : ∀ z ∈ zs, RowR w z) (hu : RowR w (u, ys)) : ∀ z ∈ zs.take k ++ (u, ys) :: zs.drop k, RowR w z := fun z hz => by
  rcases List.mem_append.1 hz with hz | hz
  · exact h z (List.mem_of_mem_take hz)
  rcases List.mem_cons.1 hz with rfl | hz
  · exact hu
  · exact h z (List.mem_of_mem_drop hz)
theorem insL_no' {xss : List (List Int)} {c : List Int} (h : foundL xss c = false) : insL xss c = xss.take (plcL xss c) ++ c :: xss.drop (plcL xss c) := by unfold insL; rw [h]; rfl
theorem insL_yes' {xss : List (List Int)} {c : List Int} (h : foundL xss c = true) : insL xss c = xss := by unfold insL; rw [h]; rfl
theorem allL_ris {cs : List (List Int)} {n q : Nat} {b : List Int} (h : b ∈ allL cs n q) : Ris (n : Int) b := allA_ris ((mem_insA _ _).1 h)
theorem allL_asc (cs : List (List Int)) (n q : Nat) : Asc (allL cs n q) := asc_insA _
theorem allL_len {cs : List (List Int)} {n q : Nat} (h : n ≤ 6) : (allL cs n q).length ≤ 729 := by
  have h1 := insA_len (allA cs n q) _ (Nat.le_refl _)
  rw [List.take_length] at h1
  have := allA_len (cs := cs) (w := q) h
  unfold allL
  omega
theorem insA_ris {cs : List (List Int)} {n q k : Nat} (hk : k ≤ (allA cs n q).length) {b : List Int} (h : b ∈ insA ((allA cs n q).take k)) : Ris (n : Int) b := allA_ris (List.mem_of_mem_take (((insA_spec _ k hk).2 b).1 h))
theorem ris_all {n : Nat} {b : List Int} (h : Ris (n : Int) b) (hn : n ≤ 6) : b.length ≤ 1000000 ∧ ∀ x ∈ b, -1000 ≤ x ∧ x ≤ 1000 := ⟨by have := h.len; omega, ris_bd h hn⟩
set_option maxRecDepth 100000 in
set_option maxHeartbeats 3200000 in
theorem s_l13Sorted (n : Nat) (cs : List (List Int)) (q : Nat) (v : Value) (w : World) (hn : n ≤ 6) (hl : cs.length ≤ 60) (hc : Hid (∀ c ∈ cs, c.length ≤ 1000000 ∧ ∀ l ∈ c, -12 ≤ l ∧ l ≤ 12)) (hq : q ≤ 6) (hv : Rd_Cnf w v ⟨(n : Int), cs⟩) :
    Calls Tryz.prog 28 #[v, .int .i64 (q : Int)] w (RetAll w (allL cs n q)) := by
  have HV := hd hv
  obtain ⟨A, c, rfl⟩ := hv.form
  simp only at *
  clear hv
  have HAC : Hid (∀ (w' : World) (av : Value), Ext w w' → RowR w' (av, []) → Calls Tryz.prog 42 #[.agg #[.int .i64 (n : Int), .slice A cs.length c], .int .i64 (q : Int), av, .int .i64 0] w' (RetAll w' (allA cs n q))) := hd fun w' av hx hr => by
    have h := s_l13All n cs q hn hl hc hq n (Nat.le_refl n) [] _ av w' (ris_nil _) (HV.out.ext hx) hr
    rw [Nat.sub_self, allS_eq] at h
    exact h
  have HAL : Hid ((allA cs n q).length ≤ 729) := hd (allA_len hn)
  have HAR : Hid (∀ b ∈ allA cs n q, Ris (n : Int) b) := hd fun b h => allA_ris h
  have HIR : Hid (∀ k, k ≤ (allA cs n q).length → ∀ b ∈ insA ((allA cs n q).take k), Ris (n : Int) b) := hd fun k hk b h => insA_ris hk h
  have HIT : Hid (∀ k (h : k < (allA cs n q).length), insA ((allA cs n q).take (k + 1)) = insL (insA ((allA cs n q).take k)) (allA cs n q)[k]) := hd fun k h => insA_take h
  have HIL : Hid (∀ k, k ≤ (allA cs n q).length → (insA ((allA cs n q).take k)).length ≤ k) := hd fun k hk => insA_len _ k hk
  have HEQ : Hid (insA ((allA cs n q).take (allA cs n q).length) = allL cs n q) := hd (by rw [List.take_length]; rfl)
  generalize allA cs n q = ys at *
  go_enter Tryz.func28, Tryz.ntmps28
  go_wp2_with fail
  refine (HAC.out _ _ (by repeat (first | exact Ext.refl _ | apply Ext.drew | refine Ext.alloc ?_ _)) (rowR_nil (by first | exact heap_n1 _ _ | exact heap_n2 _ _ _ | (have h := heap_n1 (w.alloc (.cells #[.int .i64 (n : Int), .slice A cs.length c] 28)) (.cells #[] 3); rw [World.size_alloc] at h; exact h)))).mono ?_
  rintro e w1 ⟨a1, c1, zs, rfl, ho1, hr1, hs1, hx1⟩
  have X1 := hd ((((Ext.refl w).alloc _).alloc _).trans hx1)
  have HO1 := hd ho1
  have HR1 := hd hr1
  have HS1 := hd hs1
  have hzl1 : zs.length ≤ ys.length := Nat.le_of_eq (rows_take_len hs1)
  have hzl2 : ys.length ≤ zs.length := Nat.le_of_eq (rows_take_len hs1).symm
  have hzl' := HAL.out
  have hsz := X1.out.size
  have O0 : Hid (OutZ (w1.alloc (.cells #[] 37)) w.heap.size (.slice (some ⟨w1.heap.size, 0, none⟩) 0 0) []) := hd (outZ_emp (heap_n1 _ _) hsz)
  clear ho1 hr1 hs1 hx1
  go_wp2
  go_loopw [6, 7] (fun ov iv wr => ∃ (k : Nat) (us : List Row) (ao : Addr) (co : Nat), k ≤ ys.length ∧ iv = .int .i64 (k : Int) ∧ ov = .slice (some ao) us.length co ∧ OutZ wr w.heap.size (.slice (some ao) us.length co) us ∧ Hid (∀ z ∈ us, RowR wr z) ∧ Hid (us.map Prod.snd = insA (ys.take k)) ∧ Ext w1 wr) (fun _ iv _ => ys.length - (intOf iv).toNat)
  case atStart => exact ⟨0, [], _, _, by omega, rfl, rfl, O0.out, hd (fun z hz => by cases hz), hd rfl, Ext.new _ _⟩
  case round =>
    clear O0
    obtain ⟨k, us, ao, co, hk, rfl, rfl, ho, HR, HS, hx⟩ := hrel
    have HO := hd ho
    have HX := hd hx
    have hls := hx.size
    have hul : us.length ≤ k := by have e := rows_take_len HS.out; have := HIL.out k hk; omega
    clear ho hx
    by_cases hlt : k < ys.length
    · have hkz : k < zs.length := by omega
      obtain ⟨a2, e2, hc0⟩ := OutZ.at_ (hd (own_ext HO1.out HX.out) : Hid (OutZ wr _ _ zs)) hkz
      injection e2 with e2
      subst e2
      have hrow := (HR1.out _ (List.getElem_mem hkz)).ext HX.out
      have hyk : zs[k].2 = ys[k] := by
        have e : (zs.map Prod.snd)[k]? = ys[k]? := by rw [HS1.out]
        rw [List.getElem?_map, List.getElem?_eq_getElem hkz, List.getElem?_eq_getElem hlt] at e
        simpa using e
      have HY := hd (HAR.out _ (List.getElem_mem hlt))
      have HT := hd (HIT.out k hlt)
      rw [← hyk] at HY HT
      clear hyk HR1 HO1 HS1
      generalize zs[k] = zk at *
      obtain ⟨uk, yk⟩ := zk
      (try dsimp only at hc0); (try dsimp only at HY); (try dsimp only at HT)
      have hbd := ris_all HY.out hn
      have HUB : Hid (∀ z ∈ us, RdI wr z.1 z.2 ∧ z.2.length ≤ 1000000 ∧ ∀ x ∈ z.2, -1000 ≤ x ∧ x ≤ 1000) := hd fun z hz => ⟨(HR.out z hz).1, ris_all (HIR.out k hk z.2 (by rw [← HS.out]; exact List.mem_map_of_mem hz)) hn⟩
      have HINS := hd (s_l2Insert us yk w.heap.size ao co uk wr HO.out hrow.1 HUB (hd hbd.2) (by omega) hbd.1)
      have HFY := hd (fun h => insL_yes' (xss := us.map Prod.snd) (c := yk) h)
      have HFN := hd (fun h => insL_no' (xss := us.map Prod.snd) (c := yk) h)
      have HROW := hd hrow
      have hlt' : (k : Int) < (zs.length : Int) := by omega
      clear hrow hbd HUB
      rw [← HS.out] at HT
      generalize foundL (us.map Prod.snd) yk = p at *
      obtain ⟨A3, c3, e3, -⟩ := HROW.out.1.form
      (try dsimp only at e3)
      subst e3
      go_wp2_with fail
      refine HINS.out.mono ?_
      cases p
      · rintro e w5 ⟨v', rfl, ho5, hx5⟩
        obtain ⟨a5, c5, rfl⟩ := outZ_some ho5 (by simp; omega)
        have HR5 : Hid (∀ z ∈ us.take (plcL (us.map Prod.snd) yk) ++ (_, yk) :: us.drop (plcL (us.map Prod.snd) yk), RowR w5 z) := hd (ins_rows (fun z hz => (HR.out z hz).ext hx5) (HROW.out.ext hx5))
        have HS5 : Hid ((us.take (plcL (us.map Prod.snd) yk) ++ (Value.slice A3 yk.length c3, yk) :: us.drop (plcL (us.map Prod.snd) yk)).map Prod.snd = insA (ys.take (k + 1))) := hd (by rw [ins_z, HT.out, HFN.out rfl])
        have HO5 := hd ho5
        have HX5 := hd hx5
        clear ho5 hx5
        generalize us.take (plcL (us.map Prod.snd) yk) ++ (Value.slice A3 yk.length c3, yk) :: us.drop (plcL (us.map Prod.snd) yk) = us5 at *
        go_wp2
        go_roundw
        case rel => exact ⟨k + 1, us5, a5, c5, by omega, by go_num, rfl, own_rebase HO5.out (by omega), HR5, HS5, HX.out.trans HX5.out⟩
        case measure => simp [intOf]; omega
      · rintro e w5 ⟨rfl, n5, rfl⟩
        have HX5 := hd (ext_drewN wr n5)
        have HR5 : Hid (∀ z ∈ us, RowR (wr.drewN n5) z) := hd fun z hz => (HR.out z hz).ext HX5.out
        have HS5 : Hid (us.map Prod.snd = insA (ys.take (k + 1))) := hd (by rw [HT.out, HFY.out rfl])
        go_wp2
        go_roundw
        case rel => exact ⟨k + 1, us, ao, co, by omega, by go_num, rfl, own_ext HO.out HX5.out, HR5, HS5, HX.out.trans HX5.out⟩
        case measure => simp [intOf]; omega
    · obtain rfl : k = ys.length := by omega
      go_wp2
      go_ret
      exact ⟨ao, co, us, rfl, HO.out, HR.out, by rw [HS.out]; exact HEQ.out, X1.out.trans HX.out⟩
/-- What a row wants from the rest of the words. -/
theorem rem1_ris {n : Nat} {a : List Int} (h : Ris (n : Int) a) (x : Int) : Ris (n : Int) (rem1 a x) := ⟨h.1.sublist List.filter_sublist, fun y hy => h.2 y (List.mem_filter.1 hy).1⟩
theorem keep_no1 {n w : Nat} {L : List (List Int)} {a : List Int} {k : Nat} (hk : k < a.length) (h : rem1 a a[k] ∉ L) : keepB n w L a = false := by
  unfold keepB
  have : (a.all fun l => decide (rem1 a l ∈ L)) = false := by
    rw [← Bool.not_eq_true, List.all_eq_true]
    intro hh
    exact h (of_decide_eq_true (hh a[k] (List.getElem_mem hk)))
  rw [this]; rfl
theorem keep_all1 {n w : Nat} {L : List (List Int)} {a : List Int} (h : ∀ j (hj : j < a.length), rem1 a a[j] ∈ L) : keepB n w L a = (decide (w < a.length) || (List.range n).all fun i => !opnB a ((i : Int) + 1) || choB L a ((i : Int) + 1)) := by
  unfold keepB
  have : (a.all fun l => decide (rem1 a l ∈ L)) = true := by
    rw [List.all_eq_true]
    intro l hl
    obtain ⟨j, hj, rfl⟩ := List.mem_iff_getElem.1 hl
    exact decide_eq_true (h j hj)
  rw [this]; rfl
theorem all_no {n : Nat} {p : Nat → Bool} {i : Nat} (hi : i < n) (h : p i = false) : (List.range n).all p = false := by
  rw [← Bool.not_eq_true, List.all_eq_true]
  intro hh
  rw [hh i (List.mem_range.2 hi)] at h; cases h
theorem all_yes {n : Nat} {p : Nat → Bool} (h : ∀ j, j < n → p j = true) : (List.range n).all p = true := by
  rw [List.all_eq_true]
  exact fun i hi => h i (List.mem_range.1 hi)
theorem put_len (a : List Int) (l : Int) : (putA a l).length = a.length + 1 := (putA_perm a l).length_eq
theorem put_bd {a : List Int} {l : Int} (h : ∀ x ∈ a, -1000 ≤ x ∧ x ≤ 1000) (hl : -1000 ≤ l ∧ l ≤ 1000) : ∀ x ∈ putA a l, -1000 ≤ x ∧ x ≤ 1000 := fun x hx => by
  rcases List.mem_cons.1 ((putA_perm a l).mem_iff.1 hx) with rfl | hx
  · exact hl
  · exact h x hx
theorem atL_mem {L : List (List Int)} (h : Asc L) (c : List Int) : decide (atL L c < 0) = !decide (c ∈ L) := by rw [atL_lt, foundL_mem h]
theorem atL_no {L : List (List Int)} (h : Asc L) {c : List Int} (hc : c ∉ L) : atL L c < 0 := by
  have := atL_mem h c
  rw [decide_eq_false hc] at this
  exact of_decide_eq_true this
theorem atL_yes {L : List (List Int)} (h : Asc L) {c : List Int} (hc : c ∈ L) : ¬ atL L c < 0 := by
  have := atL_mem h c
  rw [decide_eq_true hc] at this
  exact of_decide_eq_false this
set_option maxRecDepth 100000 in
set_option maxHeartbeats 3200000 in
theorem s_l13Keeps (n : Nat) (cs : List (List Int)) (q : Nat) (L : List (List Int)) (a : List Int) (v lv av : Value) (w : World) (hn : n ≤ 6) (hq : q ≤ 6) (hv : Rd_Cnf w v ⟨(n : Int), cs⟩) (hL : RdSS w lv L) (hLA : Asc L) (hLR : Hid (∀ b ∈ L, Ris (n : Int) b)) (hll : L.length ≤ 729) (ha : RowR w (av, a)) (har : Ris (n : Int) a) :
    Calls Tryz.prog 29 #[v, .int .i64 (q : Int), lv, av] w (RetX w (.bool (keepB n q L a))) := by
  have HL := hd hL
  have HLA := hd hLA
  obtain ⟨A, c, rfl⟩ := hv.form
  obtain ⟨B, d, rfl, -⟩ := hL.form
  obtain ⟨hrd, a0, c0, e0, -⟩ := ha
  simp only at e0 hrd
  subst e0
  have HA := hd hrd
  obtain ⟨-, -, -, -, -, hac⟩ := hrd.form
  have hal : a.length ≤ 6 := by have := har.len; omega
  have HAB := hd (ris_bd har hn)
  have HLB : Hid (∀ b ∈ L, b.length ≤ 1000000 ∧ ∀ x ∈ b, -1000 ≤ x ∧ x ≤ 1000) := hd fun b h => ris_all (hLR.out b h) hn
  have HAR := hd har
  simp only at *
  have HBX : Hid (∀ w' : World, Ext (w.alloc (.cells #[.int .i64 (n : Int), .slice A cs.length c] 28)) w' → w'.cell? ⟨w.heap.size, 0, none⟩ = some (.int .i64 (n : Int)) ∧ w'.cell? ⟨w.heap.size, 1, none⟩ = some (.slice A cs.length c)) := hd fun w' hx => blk2 (hx.heap (heap_n1 w _))
  have HN := hd (Ext.new w (.cells #[.int .i64 (n : Int), .slice A cs.length c] 28))
  clear hv hL hLA hrd har
  have hq6 : (q : Int) ≤ 6 := by omega
  go_enter Tryz.func29, Tryz.ntmps29
  go_wp2
  go_loopw [9] (fun iv wr => ∃ k : Nat, k ≤ a.length ∧ iv = .int .i64 (k : Int) ∧ Hid (∀ j (hj : j < a.length), j < k → rem1 a a[j] ∈ L) ∧ Ext (w.alloc (.cells #[.int .i64 (n : Int), .slice A cs.length c] 28)) wr) (fun iv _ => a.length - (intOf iv).toNat)
  case atStart => exact ⟨0, by omega, rfl, hd (fun j _ h => by omega), Ext.refl _⟩
  case round =>
    obtain ⟨k, hk, rfl, HJ, hx⟩ := hrel
    have HX := hd hx
    clear hx
    have HA1 := hd (HA.out.ext (HN.out.trans HX.out))
    have HL1 := hd (HL.out.ext (HN.out.trans HX.out))
    by_cases hlt : k < a.length
    · obtain ⟨a1, e1, hc0⟩ := RdI.at_ HA1 hlt
      injection e1 with e1
      subst e1
      have hyb := HAB.out _ (List.getElem_mem hlt)
      have HJ2 : Hid (rem1 a a[k] ∈ L → ∀ j (hj : j < a.length), j < k + 1 → rem1 a a[j] ∈ L) := hd fun h j hj hjk => by
        rcases Nat.lt_or_eq_of_le (Nat.lt_succ_iff.1 hjk) with h' | rfl
        · exact HJ.out j hj h'
        · exact h
      have HNO := hd (fun h => keep_no1 (n := n) (w := q) (L := L) hlt h)
      have HRB := hd (ris_all (rem1_ris HAR.out a[k]) hn)
      generalize a[k] = y at *
      have HV := hd (s_l2Var y wr hyb)
      have HW := hd (s_l2Without a y _ wr HA1.out (by omega) HAB)
      generalize absI y = z at *
      by_cases hm : rem1 a y ∈ L
      · have hz := atL_yes HLA.out hm
        have HJ3 := hd (HJ2.out hm)
        have HZ : Hid (atL L (rem1 a y) = atL L (rem1 a y)) := hd rfl
        clear hm HNO HJ2
        generalize hzz : atL L (rem1 a y) = t at *
        have HT := hd hzz
        clear hzz HZ
        go_wp2_with fail
        refine HV.out.mono ?_
        rintro e w1 ⟨rfl, rfl⟩
        go_wp2_with fail
        refine HW.out.mono ?_
        rintro e w1 ⟨u1, rfl, hu1, hx1⟩
        have HU1 := hd hu1.rd
        have HX1 := hd hx1
        obtain ⟨A3, c3, rfl, -⟩ := hu1.rd.form
        clear hu1 hx1
        go_wp2_with fail
        refine (s_l2At L (rem1 a y) _ _ w1 (HL1.out.ext HX1.out) HU1.out HLB (hd HRB.out.2) (by omega) HRB.out.1).mono ?_
        rw [HT.out]
        rintro e w2 ⟨rfl, n2, rfl⟩
        go_wp2
        go_roundw
        case rel => exact ⟨k + 1, by omega, by go_num, HJ3, (HX.out.trans HX1.out).drewN n2⟩
        case measure => simp [intOf]; omega
      · have hz := atL_no HLA.out hm
        have HK := hd (HNO.out hm)
        clear hm HNO HJ2
        generalize hzz : atL L (rem1 a y) = t at *
        have HT := hd hzz
        clear hzz
        go_wp2_with fail
        refine HV.out.mono ?_
        rintro e w1 ⟨rfl, rfl⟩
        go_wp2_with fail
        refine HW.out.mono ?_
        rintro e w1 ⟨u1, rfl, hu1, hx1⟩
        have HU1 := hd hu1.rd
        have HX1 := hd hx1
        obtain ⟨A3, c3, rfl, -⟩ := hu1.rd.form
        clear hu1 hx1
        go_wp2_with fail
        refine (s_l2At L (rem1 a y) _ _ w1 (HL1.out.ext HX1.out) HU1.out HLB (hd HRB.out.2) (by omega) HRB.out.1).mono ?_
        rw [HT.out]
        rintro e w2 ⟨rfl, n2, rfl⟩
        go_wp2
        go_ret
        exact RetX.mk (by rw [HK.out]; rfl) ((HN.out.trans (HX.out.trans HX1.out)).drewN n2)
    · have HK := hd (keep_all1 (n := n) (w := q) (L := L) (a := a) fun j hj => HJ.out j hj (by omega))
      obtain ⟨k0, k1⟩ := HBX.out _ HX.out
      obtain ⟨wo, rfl⟩ : ∃ wo : World, wo = wr := ⟨_, rfl⟩
      clear HJ
      go_wp2
      go_loopw [10] (fun iv wr => ∃ (i : Nat) (y : Int), i ≤ n ∧ iv = .int .i64 y ∧ y = (i : Int) + 1 ∧ Hid (∀ j, j < i → (!opnB a ((j : Int) + 1) || choB L a ((j : Int) + 1)) = true) ∧ Ext wo wr) (fun iv _ => n + 1 - (intOf iv).toNat)
      case atStart => exact ⟨0, 1, by omega, rfl, rfl, hd (fun j h => by omega), Ext.refl _⟩
      case round =>
        obtain ⟨i, y, hi, rfl, hy, HJ, hx⟩ := hrel
        have HX2 := hd hx
        clear hx
        have HXX := hd (HX.out.trans HX2.out)
        obtain ⟨k0, k1⟩ := HBX.out _ HXX.out
        have HA2 := hd (HA.out.ext (HN.out.trans HXX.out))
        have HL2 := hd (HL.out.ext (HN.out.trans HXX.out))
        by_cases hlt2 : i < n
        · have hy1 : y ≤ (n : Int) := by omega
          have hy0 : 1 ≤ y := by omega
          by_cases hqa : a.length ≤ q
          · have hqa' : (a.length : Int) ≤ (q : Int) := by omega
            have hyn : -1000 ≤ y ∧ y ≤ 1000 := by omega
            have hyn2 : -1000 ≤ -y ∧ -y ≤ 1000 := by omega
            have hwy : IntKind.i64.wrap (-y) = -y := IntWalk.i64_in _ (by omega)
            have HKK : Hid (keepB n q L a = (List.range n).all fun i => !opnB a ((i : Int) + 1) || choB L a ((i : Int) + 1)) := hd (by rw [HK.out, decide_eq_false (by omega)]; rfl)
            have HY1 : Hid (((i : Nat) : Int) + 1 = y) := hd hy.symm
            have HJ2 : Hid ((!opnB a y || choB L a y) = true → ∀ j, j < i + 1 → (!opnB a ((j : Int) + 1) || choB L a ((j : Int) + 1)) = true) := hd fun h j hj => by
              rcases Nat.lt_or_eq_of_le (Nat.lt_succ_iff.1 hj) with h' | rfl
              · exact HJ.out j h'
              · rw [HY1.out]; exact h
            have HNO : Hid ((!opnB a y || choB L a y) = false → keepB n q L a = false) := hd fun h => by rw [HKK.out]; exact all_no hlt2 (by rw [HY1.out]; exact h)
            obtain ⟨p1, hp1⟩ : ∃ p, hasI a y = p := ⟨_, rfl⟩
            obtain ⟨p2, hp2⟩ : ∃ p, hasI a (-y) = p := ⟨_, rfl⟩
            have HP1 := hd hp1
            have HP2 := hd hp2
            have HOP : Hid (opnB a y = (!p1 && !p2)) := hd (by unfold opnB; rw [hp1, hp2])
            have hy2 : y + 1 = ((i + 1 : Nat) : Int) + 1 := by omega
            have HY2 := hd hy2
            clear hp1 hp2 hy2 hy HY1
            cases p1
            · cases p2
              · have hpl1 := put_len a y
                have hpl2 := put_len a (-y)
                have HPL1 := hd hpl1
                have HPL2 := hd hpl2
                have HPB1 := hd (put_bd HAB.out hyn)
                have HPB2 := hd (put_bd HAB.out hyn2)
                have HPC1 := hd (s_l2Put a a0 c0 y wr HA2.out (by omega) HAB hyn)
                have HPC2 := hd (fun w' (hx : Ext wr w') => s_l2Put a a0 c0 (-y) w' (HA2.out.ext hx) (by omega) HAB hyn2)
                have HCH : Hid ((!opnB a y || choB L a y) = (decide (putA a y ∈ L) || decide (putA a (-y) ∈ L))) := hd (by rw [HOP.out]; rfl)
                clear hpl1 hpl2
                generalize putA a y = P1 at *
                generalize putA a (-y) = P2 at *
                by_cases hm1 : P1 ∈ L
                · have hz1 := atL_yes HLA.out hm1
                  have HJ3 := hd (HJ2.out (by rw [HCH.out, decide_eq_true hm1]; rfl))
                  clear hm1
                  generalize hzz : atL L P1 = t1 at *
                  have HT1 := hd hzz
                  clear hzz
                  go_wp2_with fail
                  refine (rt (s_l2Has a _ y wr HA2.out (by omega)) HP1).mono ?_
                  rintro e w1 ⟨rfl, rfl⟩
                  go_wp2_with fail
                  refine (rt (s_l2Has a _ (-y) wr HA2.out (by omega)) HP2).mono ?_
                  rintro e w1 ⟨rfl, rfl⟩
                  go_wp2_with fail
                  refine HPC1.out.mono ?_
                  rintro e w2 ⟨u1, rfl, hu1, hx1⟩
                  have HU1 := hd hu1.rd
                  have HX3 := hd hx1
                  obtain ⟨Au1, cu1, rfl, -⟩ := hu1.rd.form
                  clear hu1 hx1
                  go_wp2_with fail
                  refine (s_l2At L P1 _ _ w2 (HL2.out.ext HX3.out) HU1.out HLB HPB1 (by omega) (by have := HPL1.out; omega)).mono ?_
                  rw [HT1.out]
                  rintro e w4 ⟨rfl, n1, rfl⟩
                  go_wp2
                  go_roundw
                  case rel => exact ⟨i + 1, y + 1, by omega, rfl, HY2.out, HJ3, (HX2.out.trans HX3.out).drewN n1⟩
                  case measure => simp [intOf]; omega
                · have hz1 := atL_no HLA.out hm1
                  have HM1 := hd (decide_eq_false hm1)
                  clear hm1
                  generalize hzz : atL L P1 = t1 at *
                  have HT1 := hd hzz
                  clear hzz
                  by_cases hm2 : P2 ∈ L
                  · have hz2 := atL_yes HLA.out hm2
                    have HJ3 := hd (HJ2.out (by rw [HCH.out, HM1.out, decide_eq_true hm2]; rfl))
                    clear hm2
                    generalize hzz : atL L P2 = t2 at *
                    have HT2 := hd hzz
                    clear hzz
                    go_wp2_with fail
                    refine (rt (s_l2Has a _ y wr HA2.out (by omega)) HP1).mono ?_
                    rintro e w1 ⟨rfl, rfl⟩
                    go_wp2_with fail
                    refine (rt (s_l2Has a _ (-y) wr HA2.out (by omega)) HP2).mono ?_
                    rintro e w1 ⟨rfl, rfl⟩
                    go_wp2_with fail
                    refine HPC1.out.mono ?_
                    rintro e w2 ⟨u1, rfl, hu1, hx1⟩
                    have HU1 := hd hu1.rd
                    have HX3 := hd hx1
                    obtain ⟨Au1, cu1, rfl, -⟩ := hu1.rd.form
                    clear hu1 hx1
                    go_wp2_with fail
                    refine (s_l2At L P1 _ _ w2 (HL2.out.ext HX3.out) HU1.out HLB HPB1 (by omega) (by have := HPL1.out; omega)).mono ?_
                    rw [HT1.out]
                    rintro e w4 ⟨rfl, n1, rfl⟩
                    have HX4 := hd (HX3.out.drewN n1)
                    have HPD := hd (HPC2.out _ HX4.out)
                    go_wp2_with fail
                    refine HPD.out.mono ?_
                    rintro e w3 ⟨u2, rfl, hu1, hx1⟩
                    have HU2 := hd hu1.rd
                    have HX5 := hd hx1
                    obtain ⟨Au2, cu2, rfl, -⟩ := hu1.rd.form
                    clear hu1 hx1
                    go_wp2_with fail
                    refine (s_l2At L P2 _ _ w3 (HL2.out.ext (HX4.out.trans HX5.out)) HU2.out HLB HPB2 (by omega) (by have := HPL2.out; omega)).mono ?_
                    rw [HT2.out]
                    rintro e w4 ⟨rfl, n2, rfl⟩
                    go_wp2
                    go_roundw
                    case rel => exact ⟨i + 1, y + 1, by omega, rfl, HY2.out, HJ3, (HX2.out.trans (HX4.out.trans HX5.out)).drewN n2⟩
                    case measure => simp [intOf]; omega
                  · have hz2 := atL_no HLA.out hm2
                    have HKF := hd (HNO.out (by rw [HCH.out, HM1.out, decide_eq_false hm2]; rfl))
                    clear hm2
                    generalize hzz : atL L P2 = t2 at *
                    have HT2 := hd hzz
                    clear hzz
                    go_wp2_with fail
                    refine (rt (s_l2Has a _ y wr HA2.out (by omega)) HP1).mono ?_
                    rintro e w1 ⟨rfl, rfl⟩
                    go_wp2_with fail
                    refine (rt (s_l2Has a _ (-y) wr HA2.out (by omega)) HP2).mono ?_
                    rintro e w1 ⟨rfl, rfl⟩
                    go_wp2_with fail
                    refine HPC1.out.mono ?_
                    rintro e w2 ⟨u1, rfl, hu1, hx1⟩
                    have HU1 := hd hu1.rd
                    have HX3 := hd hx1
                    obtain ⟨Au1, cu1, rfl, -⟩ := hu1.rd.form
                    clear hu1 hx1
                    go_wp2_with fail
                    refine (s_l2At L P1 _ _ w2 (HL2.out.ext HX3.out) HU1.out HLB HPB1 (by omega) (by have := HPL1.out; omega)).mono ?_
                    rw [HT1.out]
                    rintro e w4 ⟨rfl, n1, rfl⟩
                    have HX4 := hd (HX3.out.drewN n1)
                    have HPD := hd (HPC2.out _ HX4.out)
                    go_wp2_with fail
                    refine HPD.out.mono ?_
                    rintro e w3 ⟨u2, rfl, hu1, hx1⟩
                    have HU2 := hd hu1.rd
                    have HX5 := hd hx1
                    obtain ⟨Au2, cu2, rfl, -⟩ := hu1.rd.form
                    clear hu1 hx1
                    go_wp2_with fail
                    refine (s_l2At L P2 _ _ w3 (HL2.out.ext (HX4.out.trans HX5.out)) HU2.out HLB HPB2 (by omega) (by have := HPL2.out; omega)).mono ?_
                    rw [HT2.out]
                    rintro e w4 ⟨rfl, n2, rfl⟩
                    go_wp2
                    go_ret
                    exact RetX.mk (by rw [HKF.out]; rfl) ((HN.out.trans (HXX.out.trans (HX4.out.trans HX5.out))).drewN n2)
              · have HJ3 := hd (HJ2.out (by rw [HOP.out]; rfl))
                go_wp2_with fail
                refine (rt (s_l2Has a _ y wr HA2.out (by omega)) HP1).mono ?_
                rintro e w1 ⟨rfl, rfl⟩
                go_wp2_with fail
                refine (rt (s_l2Has a _ (-y) wr HA2.out (by omega)) HP2).mono ?_
                rintro e w1 ⟨rfl, rfl⟩
                go_wp2
                go_roundw
                case rel => exact ⟨i + 1, y + 1, by omega, rfl, HY2.out, HJ3, HX2.out⟩
                case measure => simp [intOf]; omega
            · have HJ3 := hd (HJ2.out (by rw [HOP.out]; rfl))
              go_wp2_with fail
              refine (rt (s_l2Has a _ y wr HA2.out (by omega)) HP1).mono ?_
              rintro e w1 ⟨rfl, rfl⟩
              go_wp2
              go_roundw
              case rel => exact ⟨i + 1, y + 1, by omega, rfl, HY2.out, HJ3, HX2.out⟩
              case measure => simp [intOf]; omega
          · have hqa' : ¬ (a.length : Int) ≤ (q : Int) := by omega
            have HKK : Hid (keepB n q L a = true) := hd (by rw [HK.out, decide_eq_true (by omega)]; rfl)
            go_wp2
            go_ret
            exact RetX.mk (by rw [HKK.out]; rfl) (HN.out.trans HXX.out)
        · have hy1 : ¬ y ≤ (n : Int) := by omega
          have HKK : Hid (keepB n q L a = true) := hd (by rw [HK.out, all_yes fun j hj => HJ.out j (by omega)]; cases decide (q < a.length) <;> rfl)
          go_wp2
          go_ret
          exact RetX.mk (by rw [HKK.out]; rfl) (HN.out.trans HXX.out)
end Go.Proofs.YtbdcomkbpapcaaaGreat
