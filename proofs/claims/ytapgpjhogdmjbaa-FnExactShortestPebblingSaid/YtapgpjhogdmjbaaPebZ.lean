/-
  Pebbling, a shortest one: the reference's side. Condition: sizes up to 2^20.
-/
import Derived.Test.YtapgpjhogdmjbaaPebY
namespace Go.Proofs.Ytapgpjhogdmjbaa
open Go.RowKit Go.Shelf Peb
/-- What stands where: the graph's box, the distances, the moves so far. -/
structure ShR (w wr : World) (A : Option Addr) (n c g M : Nat) (F : List Int) (v : Value) (out : List (Int × Int)) : Prop where
  x : Ext w wr
  b0 : Boxed wr w.heap.size 28 (.slice A n c)
  f : OwnI wr w.heap.size 3 (.slice (some ⟨g, 0, none⟩) M M) F
  fl : F.length = M
  o : OwnM wr w.heap.size v out
section
variable {w wr wr' : World} {A : Option Addr} {n c g M : Nat} {F : List Int} {v : Value} {out : List (Int × Int)}
theorem ShR.ext (h : ShR w wr A n c g M F v out) (hx : Ext wr wr') : ShR w wr' A n c g M F v out := ⟨h.x.trans hx, hx.heap h.b0, own_ext h.f hx, h.fl, own_ext h.o hx⟩
theorem ShR.at_ (h : ShR w wr A n c g M F v out) {i : Nat} (hi' : i < M) : wr.cell? ⟨g, i, none⟩ = some (.int .i64 (fa F i)) := by
  have hl : i < F.length := by rw [h.fl]; exact hi'
  obtain ⟨a, e, hc⟩ := RdI.at_ (hd (OwnI.rd h.f)) hl
  injection e with e
  subst e
  have he : (⟨g, 0, none⟩ : Addr).add i = ⟨g, i, none⟩ := by
    unfold Addr.add
    split
    · rename_i h; rw [h]
    · simp
  rw [he] at hc
  have e2 : fa F i = F[i] := by simp [fa, List.getD_eq_getElem?_getD, hl]
  rw [e2]; exact hc
theorem ShR.push (h : ShR w wr A n c g M F v out) {tmp : Obj} {m : Int × Int} {v' : Value} {w1 : World} (ho1 : OwnM w1 w.heap.size v' (out ++ [m])) (hg : (wr.alloc tmp).grownBy w1 v.ownBlock) : ShR w w1 A n c g M F v' (out ++ [m]) := by
  have hg0 : wr.grownBy w1 v.ownBlock := grown_trans (grown_ext (Ext.new wr tmp) _) hg
  refine ⟨h.x.grown hg0 h.x.size (fun k hk => (own_blocks h.o k hk).1), h.b0.kept hg0 (h.b0.not_row (by decide) h.o), World.ownsRow.kept h.f hg0 ?_, h.fl, ho1⟩
  rcases h.o.2 with ⟨rfl, _⟩ | ⟨g2, cap, cur, rfl, _, hgb, _⟩
  · exact .inr (fun e => by cases e)
  · exact .inr (fun e => by
      obtain rfl : g = g2 := Option.some.inj e
      rcases h.f.2 with ⟨e0, _⟩ | ⟨g3, cap3, cur3, e3, _, hgb3, _⟩
      · cases e0
      · injection e3 with e3
        injection e3 with e3
        injection e3 with e3
        subst e3
        have := hgb.symm.trans hgb3
        simp at this)
end
theorem any_more {ds : List (List Int)} {s P d i j x : Nat} {F : List Int} (hx : x < ds.length) (hij : i = j * ds.length + x) (hno : (mvU ds ds.length false s P i).any (hitM F d) = false) (h : mvB ds false P ((j : Int) + 1) x = true → ¬ fa F (P ^^^ 2 ^ x) = (d : Int)) : (mvU ds ds.length false s P (i + 1)).any (hitM F d) = false := by
  rw [mvU_succ, List.any_append, hno, Bool.false_or]
  cases ho : mvO ds ds.length false s P i with
  | none => rfl
  | some m =>
    have hd := mvO_div (j := j) hx
    rw [← hij] at hd
    have hok := okA_iff.1 m.2
    unfold mvO at ho
    split at ho
    · injection ho with ho
      rw [← ho] at hok ⊢
      dsimp only at hok
      rw [hd.1, hd.2] at hok
      show ([_].any _) = false
      rw [List.any_cons, List.any_nil, Bool.or_false]
      have e : P ^^^ 2 ^ (i % ds.length) = P ^^^ 2 ^ x := by rw [hd.2]
      refine decide_eq_false ?_
      show ¬ fa F (P ^^^ 2 ^ (i % ds.length)) = (d : Int)
      rw [e]
      exact h hok.2.2.1
    · cases ho
theorem hit_nxt {ds : List (List Int)} {s P d i j x : Nat} {F : List Int} (hj : j < 2) (hx : x < ds.length) (hij : i = j * ds.length + x) (hi : i < 2 * ds.length) (hno : (mvU ds ds.length false s P i).any (hitM F d) = false) (hF : FinD (eP ds ds.length false s) (dP ds.length false s) (2 ^ ds.length) F) (hP : P < 2 ^ ds.length)
    (hB : mvB ds false P ((j : Int) + 1) x = true) (hf : fa F (P ^^^ 2 ^ x) = (d : Int)) : ∃ m, nxt ds s F d P = some m ∧ mvI m = ((j : Int) + 1, (x : Int)) ∧ m.1.2.2 = P ^^^ 2 ^ x ∧ P ^^^ 2 ^ x < 2 ^ ds.length ∧ Dst (eP ds ds.length false s) (dP ds.length false s) (2 ^ ds.length) d (P ^^^ 2 ^ x) := by
  have hQ : P ^^^ 2 ^ x < 2 ^ ds.length := flip_lt hP hx
  have hD : Dst (eP ds ds.length false s) (dP ds.length false s) (2 ^ ds.length) d (P ^^^ 2 ^ x) := by
    by_cases hd : ∃ e, Dst (eP ds ds.length false s) (dP ds.length false s) (2 ^ ds.length) e (P ^^^ 2 ^ x)
    · obtain ⟨e, he⟩ := hd
      have := hF.yes _ e hQ he
      have : e = d := by omega
      subst this; exact he
    · have := hF.no _ hQ fun e he => hd ⟨e, he⟩
      omega
  have hc : cnt (P ^^^ 2 ^ x) ≤ s := by
    cases d with
    | zero =>
      have h0 : dP ds.length false s (P ^^^ 2 ^ x) = true := hD.1
      unfold dP at h0
      rw [Bool.and_eq_true] at h0
      exact of_decide_eq_true h0.2
    | succ d =>
      obtain ⟨Q, _, hE, _⟩ := hD.pred
      exact (eP_iff.1 hE).1
  obtain ⟨h, ho⟩ := mvO_yes (ds := ds) (n := ds.length) (rev := false) (s := s) (P := P) hj hx hB hc
  rw [← hij] at ho
  refine ⟨⟨(j, x, P ^^^ 2 ^ x), h⟩, nxt_of (k := i + 1) hi (by rw [mvU_succ, ho]; rfl) hno (decide_eq_true hf), rfl, rfl, hQ, hD⟩
theorem quo_rem {n i : Nat} (h : i < 2 * n) : ∃ j x : Nat, j < 2 ∧ x < n ∧ i = j * n + x ∧ (i : Int) / (n : Int) = (j : Int) ∧ Int.tmod (i : Int) (n : Int) = (x : Int) := by
  have hn : 0 < n := by omega
  refine ⟨i / n, i % n, (Nat.div_lt_iff_lt_mul hn).2 (by omega), Nat.mod_lt _ hn, ?_, ?_, ?_⟩
  · rw [Nat.mul_comm]; exact (Nat.div_add_mod i n).symm
  · exact (Int.natCast_ediv i n).symm
  · exact (Int.ofNat_tmod i n).symm
theorem shoL_bd (ds : List (List Int)) (s : Int) : Bd_PebbleMoveS (shoL ds s) := by
  cases hq : timeB ds s false
  · rw [shoL_no hq]; exact Nat.zero_le _
  · obtain ⟨hg, -, sn, rfl, -, d0, hN, hD⟩ := time_dst hq
    obtain ⟨hn1, hn10, -⟩ := goodD_dag hg
    have hM10 : 2 ^ ds.length ≤ 1024 := by have := Nat.pow_le_pow_right (n := 2) (by decide) hn10; simpa using this
    have hd := dst_le (Nat.pow_pos (by decide)) hD
    unfold Bd_PebbleMoveS shoL
    split
    · have := pathL_len (ds := ds) (s := (sn : Int).toNat) (F := Classical.choose (by assumption : _ ∧ _).2) (timeN ds (sn : Int) false).toNat 0
      rw [hN] at this ⊢
      rw [Int.toNat_natCast d0] at this ⊢
      omega
    · exact Nat.zero_le _
set_option maxRecDepth 100000 in
set_option maxHeartbeats 16000000 in
theorem s_ShortestPebbling (ds : List (List Int)) (v : Value) (s : Int) (w : World) (h : Rd_Dag w v ds) (hb : Bd_Dag ds) (_ : I64_Dag ds) (_ : I64 s) :
    Calls Try.prog 16 #[v, .int .i64 s] w (RetM2 w (shoL ds s) (timeB ds s false)) := by
  have HV := hd h
  obtain ⟨vc, rfl, hC⟩ := h
  obtain ⟨A, c, rfl, -, -, -⟩ := hC.form
  have XB := hd (Ext.new w (.cells #[.slice A ds.length c] 28))
  have B0 := hd (Boxed.new w 28 (.slice A ds.length c))
  have HG := hd (fun w' (hx : Ext w w') => s_l14Good ds _ w' (HV.out.ext hx) hb)
  have HBD := hd hb
  clear hC hb
  have O0 : Hid (OwnM ((w.alloc (.cells #[.slice A ds.length c] 28)).alloc (.cells #[] 52)) w.heap.size (.slice (some ⟨w.heap.size + 1, 0, none⟩) 0 0) []) := hd (by
    have := own_lit (w.alloc (.cells #[.slice A ds.length c] 28)) w.heap.size 52 2 #[] 0 (by simp) (Nat.zero_le _) rfl
    rw [World.size_alloc] at this
    exact this)
  have X0 := hd (XB.out.alloc (.cells #[] 52))
  have B1 := hd (Boxed.alloc B0.out (.cells #[] 52))
  have HM0 : Hid (0 < 2 ^ ds.length) := hd (Nat.pow_pos (by decide))
  cases hq : goodD ds
  · have HB := hd (time_bad (ds := ds) (s := s) (rev := false) (.inl hq))
    have HL := hd (shoL_no HB.out)
    rw [hq] at HG
    rw [HL.out, HB.out]
    clear hq
    go_enter Try.func16, Try.ntmps16
    go_wp2_with fail
    refine (HG.out _ X0.out).mono ?_
    rintro e w1 ⟨rfl, hx1⟩
    have O1 := hd (own_ext O0.out hx1)
    have X1 := hd (X0.out.trans hx1)
    clear hx1
    go_wp2
    go_ret2
    exact ⟨_, rfl, ⟨O1.out, fun b hb => (own_blocks O1.out b hb).2⟩, X1.out⟩
  · obtain ⟨q, hi⟩ : ∃ q, inB s 1 10 = q := ⟨_, rfl⟩
    have HI := hd hi
    have HGD := hd hq
    rw [hq] at HG
    clear hq
    cases q
    · have HB := hd (time_bad (ds := ds) (s := s) (rev := false) (.inr hi))
      have HL := hd (shoL_no HB.out)
      rw [HL.out, HB.out]
      clear hi
      go_enter Try.func16, Try.ntmps16
      go_wp2_with fail
      refine (HG.out _ X0.out).mono ?_
      rintro e w1 ⟨rfl, hx1⟩
      have O1 := hd (own_ext O0.out hx1)
      have X1 := hd (X0.out.trans hx1)
      clear hx1
      go_wp2_with fail
      refine (rt (s_l1In _ _ _ _) HI).mono ?_
      rintro e w2 ⟨rfl, rfl⟩
      go_wp2
      go_ret2
      exact ⟨_, rfl, ⟨O1.out, fun b hb => (own_blocks O1.out b hb).2⟩, X1.out⟩
    · have hs10 := inB_iff.1 hi
      obtain ⟨sn, hsn⟩ : ∃ sn : Nat, s = (sn : Int) := ⟨s.toNat, by omega⟩
      subst hsn
      have HFAR := hd (fun (w' : World) (hx : Ext w w') => s_l14Far ds sn false _ w' (HV.out.ext hx) HGD.out HBD.out (by omega))
      have HNG := hd (fun F hF hn => time_neg (ds := ds) (s := sn) (rev := false) (F := F) hF hn)
      have HPS := hd (fun F hF hn => time_pos (ds := ds) (s := sn) (rev := false) (F := F) HGD.out hi hF hn)
      clear hi
      go_enter Try.func16, Try.ntmps16
      go_wp2_with fail
      refine (HG.out _ X0.out).mono ?_
      rintro e w1 ⟨rfl, hx1⟩
      have O1 := hd (own_ext O0.out hx1)
      have X1 := hd (X0.out.trans hx1)
      have B2 := hd (hx1.heap B1.out)
      have c0 := (show Boxed w1 w.heap.size 28 (.slice A ds.length c) from B2.out).cell
      clear hx1
      go_wp2_with fail
      refine (rt (s_l1In _ _ _ _) HI).mono ?_
      rintro e w2 ⟨rfl, rfl⟩
      go_wp2_with fail
      refine (HFAR.out _ X1.out).mono ?_
      rintro e w5 ⟨g, F, rfl, hO, hF, hx5⟩
      have hc := far_zero hO hF.fl HM0.out
      have HF := hd hF
      have HS5 : Hid (ShR w w5 A ds.length c g (2 ^ ds.length) F (.slice (some ⟨w.heap.size + 1, 0, none⟩) 0 0) []) := hd ⟨X1.out.trans hx5, hx5.heap B2.out, own_down hO X1.out.size, hF.fl, own_ext O1.out hx5⟩
      have hM0 := HM0.out
      clear hO hF hx5 O1 c0
      by_cases hneg : fa F 0 < 0
      · have HB := hd (HNG.out F HF.out hneg)
        have HL := hd (shoL_no HB.out)
        have HO5 := hd HS5.out.o
        have HX5 := hd HS5.out.x
        clear HF HNG HPS HS5
        generalize hf0 : fa F 0 = f0 at *
        clear hf0
        generalize 2 ^ ds.length = M at *
        go_wp2
        go_ret2
        exact ⟨_, by rw [HB.out]; rfl, ⟨by rw [HL.out]; exact HO5.out, fun b hb => (own_blocks HO5.out b hb).2⟩, HX5.out⟩
      · obtain ⟨hB, hN⟩ := HPS.out F HF.out (by omega)
        have HB := hd hB
        have HL := hd (shoL_of hB HF.out)
        rw [hN] at HL
        have hd0 : ∃ d0 : Nat, fa F 0 = (d0 : Int) ∧ Dst (eP ds ds.length false sn) (dP ds.length false sn) (2 ^ ds.length) d0 0 := by
          by_cases hr : Rch ds false sn
          · obtain ⟨d, hd⟩ := hr
            exact ⟨d, HF.out.yes 0 d hM0 hd, hd⟩
          · exact absurd ((fin_neg HF.out).2 hr) hneg
        obtain ⟨d0, hd0, hD0⟩ := hd0
        rw [hd0] at hc hneg
        rw [hd0, Int.toNat_natCast] at HL
        obtain ⟨hn1, hn10, hdag⟩ := goodD_dag HGD.out
        have HMV := hd (fun (w' : World) (hx : Ext w w') P x kd hx' hP hk => s_l14Move ds P x kd false _ w' (HV.out.ext hx) hx' hn10 (hd fun p hp => by have := hdag x hx' p hp; omega) (by rw [List.getD_eq_getElem?_getD, List.getElem?_eq_getElem hx']; exact HBD.out.2.1 _ (List.getElem_mem hx')) hP hk)
        have hM10 : 2 ^ ds.length ≤ 1024 := by have := Nat.pow_le_pow_right (n := 2) (by decide) hn10; simpa using this
        have HDD := hd hD0
        clear HNG HPS hB hN hdag hd0 hD0
        obtain ⟨M, hM⟩ : ∃ M, 2 ^ ds.length = M := ⟨_, rfl⟩
        rw [hM] at hM10 hM0 HS5 ⊢
        have HMM := hd hM
        clear hM HM0
        have hd0M : d0 ≤ 1024 := by
          have := dst_le (by rw [HMM.out]; exact hM0) HDD.out
          rw [HMM.out] at this
          omega
        go_wp2
        go_loopg [6, 8] d0 (fun k ov pv wr => ∃ (P : Nat) (out : List (Int × Int)) (v6 : Value), ov = v6 ∧ pv = .int .i64 (P : Int) ∧ ShR w wr A ds.length c g M F v6 out ∧ P < M ∧ out.length + k ≤ d0 ∧ Hid (Dst (eP ds ds.length false sn) (dP ds.length false sn) (2 ^ ds.length) k P) ∧ Hid (shoL ds (sn : Int) = out ++ pathL ds sn F k P))
        case atStart => exact ⟨0, [], _, rfl, rfl, HS5.out, hM0, by simp, HDD, HL⟩
        case round =>
          clear HS5 HDD HL hc
          obtain ⟨P, out, v6, rfl, rfl, hS, hP, hol, HD, HSL⟩ := hrel
          have HS := hd hS
          have cP := hS.at_ hP
          have hfP : fa F P = (gk : Int) := HF.out.yes P gk (by rw [HMM.out]; exact hP) HD.out
          rw [hfP] at cP
          have hP0 : (0 : Int) ≤ (P : Int) := by omega
          have hP1 : (P : Int) < (M : Int) := by omega
          clear hS hfP
          cases gk with
          | zero =>
            have HSL2 := hd (HSL.out.trans (by rw [pathL, List.append_nil]) : shoL ds (sn : Int) = out)
            go_wp2
            go_ret2
            exact ⟨_, by rw [HB.out]; rfl, ⟨by rw [HSL2.out]; exact HS.out.o, fun b hb => (own_blocks HS.out.o b hb).2⟩, HS.out.x⟩
          | succ d =>
            have HANY := hd (nxt_some HF.out HD.out)
            have hd0 : (0 : Int) < (d : Int) + 1 := by omega
            rw [show ((d + 1 : Nat) : Int) = (d : Int) + 1 from rfl] at cP
            have b0 := HS.out.b0.cell
            obtain ⟨wo, hwo⟩ : ∃ wo, wo = wr := ⟨_, rfl⟩
            rw [← hwo] at HS cP b0 ⊢
            clear hwo
            go_wp2
            obtain ⟨A6, c6, rfl, HO6⟩ := OwnP.form HS.out.o
            go_loopw [9, 6, 8] (fun iv ov pv wr => ∃ i : Nat, i ≤ 2 * ds.length ∧ iv = .int .i64 (i : Int) ∧ ov = .slice A6 out.length c6 ∧ pv = .int .i64 (P : Int) ∧ Ext wo wr ∧ Hid ((mvU ds ds.length false sn P i).any (hitM F d) = false)) (fun iv _ _ _ => 2 * ds.length - (intOf iv).toNat)
            case atStart => exact ⟨0, by omega, by simp, rfl, rfl, Ext.refl _, hd rfl⟩
            case round =>
              obtain ⟨i, hi, rfl, rfl, rfl, hx, HNO⟩ := hrel
              have HX := hd hx
              have d0' := hx.cell b0
              clear hx
              by_cases hlt : i < 2 * ds.length
              · have hi0 : (0 : Int) ≤ (i : Int) := by omega
                have hnI : ¬ ds = [] := fun e => by rw [e] at hn1; simp at hn1
                obtain ⟨j, x, hj, hxn, hij, hquo, hrem⟩ := quo_rem (n := ds.length) hlt
                have HIJ := hd hij
                have HQU := hd hquo
                have HRE := hd hrem
                clear hij hquo hrem
                go_wp2_with fail
                refine wp_region_sink (fun w' => (w').cell? ⟨w.heap.size, 0, none⟩ = some (.slice A ds.length c)) 13 14 #[false, false, false, false, false, false, false, false, false, false, false, false, false, false] (by kernel_rfl) (by kernel_rfl) (by kernel_rfl) ?_
                have HS9 : Hid (∀ w' : World, Ext wr w' → w'.cell? ⟨w.heap.size, 0, none⟩ = some (.slice A ds.length c)) := hd fun w' hx => hx.cell d0'
                have HSA := HS9.out _ (Ext.refl wr).drew
                have hj0 : (0 : Int) ≤ (j : Int) := by omega
                have hj1 : (j : Int) < 2 := by omega
                have hx0 : (0 : Int) ≤ (x : Int) := by omega
                have hx1 : (x : Int) < 10 := by omega
                have HWJ := hd (IntWalk.i64_in (j : Int) (by omega))
                refine' ordG_take 0 (oi := _) (v := _) ?_ ?_ ?_ (Or.inl ⟨?_, ?_⟩) ?_ ?_
                rotate_left 2
                · (simp only [List.getElem?_toArray, List.getElem?_cons_zero]; rfl)
                · kernel_rfl
                · exact fun _ _ _ h => h
                · rfl
                · (intro w hSw; (try dsimp only at hSw); go_simp; (try with_reducible rfl))
                · exact HSA
                (try simp only [Act.put, List.setIfInBounds_toArray, List.set_cons_zero, List.set_cons_succ])
                refine' ordG_take 1 (oi := _) (v := _) ?_ ?_ ?_ (Or.inl ⟨?_, ?_⟩) ?_ ?_
                rotate_left 2
                · (simp only [List.getElem?_toArray, List.getElem?_cons_zero, List.getElem?_cons_succ]; rfl)
                · kernel_rfl
                · exact fun _ _ _ h => h
                · rfl
                · (intro w hSw; (try dsimp only at hSw); go_simp; (try with_reducible rfl))
                · exact HSA
                (try simp only [Act.put, List.setIfInBounds_toArray, List.set_cons_zero, List.set_cons_succ])
                refine' ordG_take 2 (oi := _) (v := _) ?_ ?_ ?_ (Or.inl ⟨?_, ?_⟩) ?_ ?_
                rotate_left 2
                · (simp only [List.getElem?_toArray, List.getElem?_cons_zero, List.getElem?_cons_succ]; rfl)
                · kernel_rfl
                · exact fun _ _ _ h => h
                · rfl
                · (intro w hSw; (try dsimp only at hSw); go_simp; (try with_reducible rfl))
                · exact HSA
                (try simp only [Act.put, List.setIfInBounds_toArray, List.set_cons_zero, List.set_cons_succ])
                refine' ordG_take 3 (oi := _) (v := _) ?_ ?_ ?_ (Or.inl ⟨?_, ?_⟩) ?_ ?_
                rotate_left 2
                · (simp only [List.getElem?_toArray, List.getElem?_cons_zero, List.getElem?_cons_succ]; rfl)
                · kernel_rfl
                · exact fun _ _ _ h => h
                · rfl
                · (intro w hSw; (try dsimp only at hSw); go_simp; (try with_reducible rfl))
                · exact HSA
                (try simp only [Act.put, List.setIfInBounds_toArray, List.set_cons_zero, List.set_cons_succ])
                refine' ordG_take 4 (oi := _) (v := _) ?_ ?_ ?_ (Or.inl ⟨?_, ?_⟩) ?_ ?_
                rotate_left 2
                · (simp only [List.getElem?_toArray, List.getElem?_cons_zero, List.getElem?_cons_succ]; rfl)
                · kernel_rfl
                · exact fun _ _ _ h => h
                · rfl
                · (intro w hSw; (try dsimp only at hSw); go_simp; (rw [HQU.out, HWJ.out]))
                · exact HSA
                (try simp only [Act.put, List.setIfInBounds_toArray, List.set_cons_zero, List.set_cons_succ])
                have HW1 := hd ((IntWalk.i64_in (1 + (j : Int)) (by omega)).trans (Int.add_comm _ _))
                refine' ordG_take 5 (oi := _) (v := _) ?_ ?_ ?_ (Or.inl ⟨?_, ?_⟩) ?_ ?_
                rotate_left 2
                · (simp only [List.getElem?_toArray, List.getElem?_cons_zero, List.getElem?_cons_succ]; rfl)
                · kernel_rfl
                · exact fun _ _ _ h => h
                · rfl
                · (intro w hSw; (try dsimp only at hSw); go_simp; (rw [HW1.out]))
                · exact HSA
                (try simp only [Act.put, List.setIfInBounds_toArray, List.set_cons_zero, List.set_cons_succ])
                refine' ordG_take 6 (oi := _) (v := _) ?_ ?_ ?_ (Or.inl ⟨?_, ?_⟩) ?_ ?_
                rotate_left 2
                · (simp only [List.getElem?_toArray, List.getElem?_cons_zero, List.getElem?_cons_succ]; rfl)
                · kernel_rfl
                · exact fun _ _ _ h => h
                · rfl
                · (intro w hSw; (try dsimp only at hSw); go_simp; (try with_reducible rfl))
                · exact HSA
                (try simp only [Act.put, List.setIfInBounds_toArray, List.set_cons_zero, List.set_cons_succ])
                refine' ordG_take 7 (oi := _) (v := _) ?_ ?_ ?_ (Or.inl ⟨?_, ?_⟩) ?_ ?_
                rotate_left 2
                · (simp only [List.getElem?_toArray, List.getElem?_cons_zero, List.getElem?_cons_succ]; rfl)
                · kernel_rfl
                · exact fun _ _ _ h => h
                · rfl
                · (intro w hSw; (try dsimp only at hSw); go_simp; (try with_reducible rfl))
                · exact HSA
                (try simp only [Act.put, List.setIfInBounds_toArray, List.set_cons_zero, List.set_cons_succ])
                refine' ordG_take 8 (oi := _) (v := _) ?_ ?_ ?_ (Or.inl ⟨?_, ?_⟩) ?_ ?_
                rotate_left 2
                · (simp only [List.getElem?_toArray, List.getElem?_cons_zero, List.getElem?_cons_succ]; rfl)
                · kernel_rfl
                · exact fun _ _ _ h => h
                · rfl
                · (intro w hSw; (try dsimp only at hSw); go_simp; (try with_reducible rfl))
                · exact HSA
                (try simp only [Act.put, List.setIfInBounds_toArray, List.set_cons_zero, List.set_cons_succ])
                refine' ordG_take 9 (oi := _) (v := _) ?_ ?_ ?_ (Or.inl ⟨?_, ?_⟩) ?_ ?_
                rotate_left 2
                · (simp only [List.getElem?_toArray, List.getElem?_cons_zero, List.getElem?_cons_succ]; rfl)
                · kernel_rfl
                · exact fun _ _ _ h => h
                · rfl
                · (intro w hSw; (try dsimp only at hSw); go_simp; (try with_reducible rfl))
                · exact HSA
                (try simp only [Act.put, List.setIfInBounds_toArray, List.set_cons_zero, List.set_cons_succ])
                refine' ordG_take 10 (oi := _) (v := _) ?_ ?_ ?_ (Or.inl ⟨?_, ?_⟩) ?_ ?_
                rotate_left 2
                · (simp only [List.getElem?_toArray, List.getElem?_cons_zero, List.getElem?_cons_succ]; rfl)
                · kernel_rfl
                · exact fun _ _ _ h => h
                · rfl
                · (intro w hSw; (try dsimp only at hSw); go_simp; (rw [HRE.out]))
                · exact HSA
                (try simp only [Act.put, List.setIfInBounds_toArray, List.set_cons_zero, List.set_cons_succ])
                refine' ordG_take 11 (oi := _) (v := _) ?_ ?_ ?_ (Or.inl ⟨?_, ?_⟩) ?_ ?_
                rotate_left 2
                · (simp only [List.getElem?_toArray, List.getElem?_cons_zero, List.getElem?_cons_succ]; rfl)
                · kernel_rfl
                · exact fun _ _ _ h => h
                · rfl
                · (intro w hSw; (try dsimp only at hSw); go_simp; (try with_reducible rfl))
                · exact HSA
                (try simp only [Act.put, List.setIfInBounds_toArray, List.set_cons_zero, List.set_cons_succ])
                refine ordG_all (rs := [12]) (by kernel_rfl) (by simp) (by decide) ?_
                refine' ordG_cons (o := _) ?_ (fun K hK => ?_) ordG_nil
                rotate_left 1
                · (simp only [List.getElem?_toArray, List.getElem?_cons_zero, List.getElem?_cons_succ]; rfl)
                go_simp
                refine hK.out _ _ (HS9.out _ ((Ext.refl wr).drew.alloc _)) ?_
                clear hK K HSA
                (try simp only [Act.put, List.setIfInBounds_toArray, List.set_cons_zero, List.set_cons_succ])
                refine ordG_last (by kernel_rfl) (by kernel_rfl) ?_
                refine' wpOp_step (o := _) ?_ (fun K hK => ?_)
                rotate_left 1
                · (simp only [List.getElem?_toArray, List.getElem?_cons_zero, List.getElem?_cons_succ]; rfl)
                go_simp
                refine hK _ _ ?_
                clear hK K
                (try simp only [Act.put, List.setIfInBounds_toArray, List.set_cons_zero, List.set_cons_succ])
                have hxm : Ext wr (wr.alloc (.cells #[.int .i64 ((j : Int) + 1), .int .i64 (x : Int)] 52)).drew := (Ext.new _ _).drew
                have hbm : (wr.alloc (.cells #[.int .i64 ((j : Int) + 1), .int .i64 (x : Int)] 52)).drew.heap[wr.heap.size]? = some (.cells #[.int .i64 ((j : Int) + 1), .int .i64 (x : Int)] 52 (0, 0)) := World.alloc_heap_new wr _
                have c0m := hxm.cell d0'
                obtain ⟨Bm, hBm⟩ : ∃ B, wr.heap.size = B := ⟨_, rfl⟩
                rw [hBm] at hbm ⊢
                obtain ⟨cm0, cm1⟩ := blk2 hbm
                have HXM := hd (HX.out.trans hxm)
                have HBM := hd hbm
                clear hBm hxm hbm d0' HS9
                generalize (wr.alloc (.cells #[.int .i64 ((j : Int) + 1), .int .i64 (x : Int)] 52)).drew = Wm at *
                have HMZ := hd (mvZ_B ds false P ((j : Int) + 1) x)
                have HM := HMV.out Wm (HS.out.x.trans HXM.out) P x ((j : Int) + 1) hxn (by omega) (by omega)
                obtain ⟨mz, hmz⟩ : ∃ mz, mvZ ds false P ((j : Int) + 1) x = mz := ⟨_, rfl⟩
                rw [hmz] at HM HMZ
                clear hmz
                have HMM3 := hd HM
                clear HM
                go_wp2_with fail
                refine HMM3.out.mono ?_
                rintro e w7 ⟨rfl, hx7⟩
                have HX7 := hd (HXM.out.trans hx7)
                have HBM7 := hd (hx7.heap HBM.out)
                have cP7 := HX7.out.cell cP
                have hwd : IntKind.i64.wrap (d : Int) = (d : Int) := IntWalk.i64_in _ (by omega)
                clear hx7 c0m cm0 cm1 HBM
                cases hB : mvB ds false P ((j : Int) + 1) x
                · have hm1 : mz = -1 := by rw [HMZ.out, hB]; rfl
                  subst hm1
                  have HNO2 := hd (any_more hxn HIJ.out HNO.out (fun h => by rw [hB] at h; cases h))
                  clear hB HMZ hwd
                  go_wp2_with fail
                  go_quiet (fail)
                  go_wp2
                  go_roundw
                  case rel => exact ⟨i + 1, by omega, by go_num, rfl, rfl, HX7.out.drewN _, HNO2⟩
                  case measure => simp [intOf]; omega
                · have hm1 : mz = ((P ^^^ 2 ^ x : Nat) : Int) := by rw [HMZ.out, hB]; rfl
                  subst hm1
                  have hQM : P ^^^ 2 ^ x < M := by
                    have := flip_lt (n := ds.length) (P := P) (x := x) (by rw [HMM.out]; exact hP) hxn
                    rw [HMM.out] at this; exact this
                  have cQ7 := (HS.out.ext HX7.out).at_ hQM
                  have HBB := hd hB
                  have hQ0 : (0 : Int) ≤ ((P ^^^ 2 ^ x : Nat) : Int) := by omega
                  have hQ1 : ((P ^^^ 2 ^ x : Nat) : Int) < (M : Int) := by omega
                  clear hB HMZ HMM3
                  by_cases hit : fa F (P ^^^ 2 ^ x) = (d : Int)
                  · obtain ⟨m, hn, hmI, hmQ, -, hDQ⟩ := hit_nxt hj hxn HIJ.out hlt HNO.out HF.out (by rw [HMM.out]; exact hP) HBB.out hit
                    have HNX := hd (HSL.out.trans (by rw [pathL_step hn, hmI, hmQ]))
                    have HDQ := hd hDQ
                    rw [hit] at cQ7
                    clear hn hmI hmQ hDQ hit m
                    generalize P ^^^ 2 ^ x = Q at *
                    have HO7 := hd (own_ext HO6.out HX7.out)
                    have HS7 := hd (HS.out.ext HX7.out)
                    go_wp2_with fail
                    go_quiet (fail)
                    have HBM5 : Hid ((w7.drewN nq).heap[Bm]? = some (.cells #[.int .i64 ((j : Int) + 1), .int .i64 (x : Int)] 52 (0, 0))) := hd HBM7.out
                    have HS5 := hd (HS7.out.ext ((Ext.refl w7).drewN nq))
                    have HO5 := hd (own_ext HO7.out ((Ext.refl w7).drewN nq))
                    clear HS7 HO7 HBM7 HX7 HXM cQ7 cP7 hwd
                    generalize w7.drewN nq = W5 at *
                    have hsz5 := HS5.out.x.size
                    obtain ⟨km0, km1⟩ := blk2 HBM5.out
                    go_wp2_with (at_builtin; refine appM W5 ((j : Int) + 1) (x : Int) HO5.out rfl _ _ rfl (by rfl) (by rfl) (by rfl) (by omega) hsz5 ?_; intro v8 w8 ho8 hg8 hb8)
                    go_roundg d
                    case measure => omega
                    case rel => exact ⟨Q, out ++ [((j : Int) + 1, (x : Int))], _, rfl, rfl, ShR.push ⟨HS5.out.x, HS5.out.b0, HS5.out.f, HS5.out.fl, HO5.out⟩ ho8 hg8, hQM, by simp; omega, HDQ, hd (by rw [HNX.out]; simp)⟩
                  · have HNO2 := hd (any_more hxn HIJ.out HNO.out (fun _ => hit))
                    have hitI := hit
                    generalize fa F (P ^^^ 2 ^ x) = fq at *
                    generalize P ^^^ 2 ^ x = Q at *
                    clear hit
                    go_wp2_with fail
                    go_quiet (fail)
                    go_wp2
                    go_roundw
                    case rel => exact ⟨i + 1, by omega, by go_num, rfl, rfl, HX7.out.drewN _, HNO2⟩
                    case measure => simp [intOf]; omega
              · exfalso
                obtain rfl : i = 2 * ds.length := by omega
                have := HNO.out
                rw [HANY.out] at this
                cases this
end Go.Proofs.Ytapgpjhogdmjbaa
