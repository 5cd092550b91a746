/-
  The strongest and the weakest values of both sides. Conditions: sizes up to 2^20.
-/
import Derived.Test.YtlegfibfjhfkhaaMkB
import Derived.Test.YtlegfibfjhfkhaaVal
import Derived.Deep.DrawnRows
namespace Go.Proofs.Ytlegfibfjhfkhaa
open Go.RowKit
/-- For each number whether all clauses are true for some bits below K with it. -/
def possV (vs : List Int) (cs : List (List Int)) (K : Nat) : List Bool := (List.range (2 ^ vs.length)).map fun m => (List.range K).any fun b => allT b cs && (numOf vs b == m)
theorem possV_len (vs : List Int) (cs : List (List Int)) (K : Nat) : (possV vs cs K).length = 2 ^ vs.length := by simp [possV]
theorem possV_zero (vs : List Int) (cs : List (List Int)) : possV vs cs 0 = List.replicate (2 ^ vs.length) false := by
  unfold possV
  refine List.ext_getElem (by simp) fun i h1 h2 => ?_
  simp
theorem possV_no {vs : List Int} {cs : List (List Int)} {K : Nat} (h : allT K cs = false) : possV vs cs (K + 1) = possV vs cs K := by
  unfold possV
  refine List.map_congr_left fun m _ => ?_
  rw [List.range_succ, List.any_append]
  simp [h]
theorem possV_yes {vs : List Int} {cs : List (List Int)} {K : Nat} (h : allT K cs = true) : possV vs cs (K + 1) = (possV vs cs K).set (numOf vs K) true := by
  refine List.ext_getElem (by simp [possV]) fun i h1 h2 => ?_
  rw [List.getElem_set]
  unfold possV
  simp only [List.getElem_map, List.getElem_range, List.range_succ, List.any_append, List.any_cons, List.any_nil, Bool.or_false, h, Bool.true_and]
  by_cases e : numOf vs K = i
  · rw [if_pos e]; simp [e]
  · rw [if_neg e]; simp [e]
set_option maxRecDepth 100000 in
set_option maxHeartbeats 3200000 in
theorem s_l29Some_big (f : Cnf) (v lv : Value) (L : List (List Int)) (k : Nat) (w : World) (h : Rd_Cnf w v f) (b : Bd_Cnf f) (hg : goodB f = true) (hk : k ≤ f.cs.length) (hL : RdSS w lv L) (h6 : 6 < (bothV f k f.n.toNat).length) :
    Calls Try.prog 175 #[v, .int .i64 k, lv] w (fun e w' => ∃ u, e = .returned (.tuple #[u, .bool false]) ∧ OwnB w' w.heap.size 4 u [] ∧ Ext w w') := by
  obtain ⟨A, c, rfl⟩ := h.form
  obtain ⟨AL, cL, rfl, -⟩ := hL.form
  have X0 : Hid (Ext w (w.alloc (.cells #[.int .i64 f.n, .slice A f.cs.length c] 26))) := hd (Ext.new _ _)
  have HV := hd (h.ext X0.out)
  have HB := hd b
  have HG := hd hg
  have HK := hd hk
  clear h b hg hk hL
  go_enter Try.func175, Try.ntmps175
  go_wp2_with fail
  refine (s_l29Sides f _ k _ HV.out HB.out HG.out HK.out).mono ?_
  rintro e w1 ⟨u0, u1, u2, rfl, -, -, hu2, hx⟩
  have X1 := hd (X0.out.trans hx)
  obtain ⟨A2, c2, rfl, -⟩ := hu2.form
  clear hu2 hx
  generalize (bothV f k f.n.toNat).length = N at *
  go_wp2
  go_ret2
  exact ⟨_, rfl, own_lit w1 w.heap.size 4 1 #[] 0 X1.out.size (Nat.zero_le _) rfl, X1.out.alloc _⟩
set_option maxRecDepth 100000 in
set_option maxHeartbeats 3200000 in
theorem s_l29Some (f : Cnf) (v lv : Value) (L : List (List Int)) (k : Nat) (w : World) (h : Rd_Cnf w v f) (b : Bd_Cnf f) (hg : goodB f = true) (hk : k ≤ f.cs.length) (hL : RdSS w lv L) (hLm : Hid (∀ c ∈ L, c ∈ f.cs)) (hLl : L.length ≤ 1048576) (h6 : (bothV f k f.n.toNat).length ≤ 6) :
    Calls Try.prog 175 #[v, .int .i64 k, lv] w (fun e w' => ∃ u, e = .returned (.tuple #[u, .bool true]) ∧ OwnB w' w.heap.size 4 u (possV (bothV f k f.n.toNat) L (2 ^ f.n.toNat)) ∧ Ext w w') := by
  obtain ⟨hn0, hn12, -, -⟩ := good_inv hg
  obtain ⟨A, c, rfl⟩ := h.form
  have HL := hd hL
  obtain ⟨AL, cL, rfl, -⟩ := hL.form
  have HLE : Hid (∀ c ∈ L, c.length ≤ 1073741824) := hd fun c hc => by have := good_len hg c (hLm.out c hc); omega
  have HPO := hd (both_pos hg k)
  obtain ⟨n, cs⟩ := f
  simp only at *
  obtain ⟨m, rfl⟩ := Int.eq_ofNat_of_zero_le hn0
  rw [Int.toNat_natCast] at *
  have HLI : Hid (∀ c ∈ L, ∀ l ∈ c, -(m : Int) ≤ l ∧ l ≤ m ∧ l ≠ 0) := hd fun c hc l hl => (clause_inv ((good_inv hg).2.2.2 c (hLm.out c hc))).2.2.1 l hl
  have X0 : Hid (Ext w (w.alloc (.cells #[.int .i64 (m : Int), .slice A cs.length c] 26))) := hd (Ext.new _ _)
  have HV := hd (h.ext X0.out)
  have HB := hd b
  have HG := hd hg
  have HK := hd hk
  have HB0 := hd (blk_new (w := w) (.cells #[.int .i64 (m : Int), .slice A cs.length c] 26) rfl)
  have hsd := fun w' hx => s_l29Sides ⟨m, cs⟩ (.agg #[.int .i64 (m : Int), .slice A cs.length c]) k w' hx b hg hk
  simp only [Int.toNat_natCast] at hsd
  have HSD := hd hsd
  clear h b hg hk hL hn0 hsd
  generalize bothV ⟨m, cs⟩ k m = both at *
  go_enter Try.func175, Try.ntmps175
  go_wp2_with fail
  refine (HSD.out _ HV.out).mono ?_
  rintro e w1 ⟨u0, u1, u2, rfl, -, -, hu2, hx⟩
  have X1 := hd (X0.out.trans hx)
  have HB1 := hd (hx.heap HB0.out)
  have HU2 := hd hu2.rd
  obtain ⟨A2, c2, rfl, -⟩ := hu2.form
  clear hu2 hx HV X0 HB0
  have hp6 := pow6 h6
  have hpw := wrap_pow (m := both.length) (by omega)
  have hpm := wrap_pow (m := m) (by omega)
  have hp12 := pow12 (k := m) (by omega)
  have hpl := possV_len both L
  generalize hP : 2 ^ both.length = P at *
  generalize hM : 2 ^ m = M at *
  have HP := hd hP
  have HM := hd hM
  have HPL := hd hpl
  clear hP hM hpl
  have hd6 : decide (6 < (both.length : Int)) = false := decide_eq_false (by omega)
  have HBL : Hid (both.length ≤ 12 ∧ L.length ≤ 1073741824 ∧ m ≤ 12) := hd ⟨by omega, by omega, by omega⟩
  have HZ : Hid (List.replicate P false = possV both L 0) := hd (by rw [possV_zero, HP.out])
  go_wp2_with (at_make; rw [hpw]; refine mkB (n := P) _ rfl _ _ rfl rfl rfl (by omega) ?_; intro w2 hown2 hx2)
  have HX2 := hd (X1.out.trans hx2)
  rw [HZ.out] at hown2
  have HO2 := hd hown2
  have HB2 := hd (hx2.heap HB1.out)
  have HX12 := hd hx2
  have hsz := X1.out.size
  have hsz2 : w1.heap.size < w2.heap.size := by have := own_lt hown2 w1.heap.size rfl; exact this
  have hs0 : w.heap.size < w1.heap.size := (Array.getElem?_eq_some_iff.1 HB1.out).1
  clear hown2 hx2 hpw hd6 X1 HB1
  go_wp2
  go_loopw [12] (fun i wr => ∃ K : Nat, K ≤ M ∧ i = .int .i64 K ∧ Hid (OwnB wr w1.heap.size 4 (.slice (some ⟨w1.heap.size, 0, none⟩) P P) (possV both L K)) ∧ Hid (Touch w1.heap.size (w1.heap.size + 1) w2 wr)) (fun i _ => M - (intOf i).toNat)
  case atStart => exact ⟨0, by omega, rfl, HO2, hd (Touch.refl _ _ _)⟩
  case round =>
    clear HO2
    obtain ⟨K, hK, rfl, HO, HT⟩ := hrel
    have HB3 := hd (touch_blk' HT.out HB2.out (by omega))
    obtain ⟨c0, c1⟩ := blk2 HB3.out
    have Y0 := hd (touch_ext HX2.out HT.out (by omega))
    have Y1 := hd (touch_ext HX12.out HT.out (Nat.le_refl _))
    by_cases hlt : K < M
    · obtain ⟨q, hq⟩ : ∃ q, allT K L = q := ⟨_, rfl⟩
      have HQ := hd hq
      clear hq
      go_wp2_with fail
      refine (rtx (s_l29True L _ m K _ (HL.out.ext Y0.out) HBL.out.2.1 HLE HLI HBL.out.2.2 (by omega)) HQ).mono ?_
      rintro e w3 ⟨rfl, hx3⟩
      have HO3 := hd (OwnB.ext HO.out hx3)
      have HT3 := hd (HT.out.trans (Touch.of_ext hx3))
      have Z1 := hd (Y1.out.trans hx3)
      clear hx3 c0 c1
      cases q
      · go_wp2
        go_roundw
        case rel => exact ⟨K + 1, by omega, by go_num, hd (by rw [possV_no HQ.out]; exact HO3.out), HT3⟩
        case measure => simp [intOf]; omega
      · have hnl : numOf both K < P := by rw [← HP.out]; exact numU_lt both K both.length
        have HS := hd (possV_yes (vs := both) HQ.out)
        go_wp2_with fail
        refine (s_l29Number both _ K _ (HU2.out.ext Z1.out) HBL.out.1 HPO (by omega)).mono ?_
        rintro e w4 ⟨rfl, rfl⟩
        obtain ⟨⟨u0, hc⟩, hf, hst⟩ := ownB_store HO3.out (by rw [HPL.out]) hnl
        generalize numOf both K = z at *
        go_wp2
        go_roundw
        case rel => exact ⟨K + 1, by omega, by go_num, hd (by rw [HS.out]; exact hst.out true), hd (HT3.out.setCell (by simp) (by simp) _)⟩
        case measure => simp [intOf]; omega
    · obtain rfl : K = M := by omega
      clear c0 c1
      obtain ⟨c0, c1⟩ := blk2 HB3.out
      go_wp2
      go_ret2
      exact ⟨.slice (some ⟨w1.heap.size, 0, none⟩) P P, rfl, by rw [HM.out]; exact own_rebase HO.out (by omega), Y0.out⟩
set_option maxRecDepth 100000 in
set_option maxHeartbeats 1600000 in
/-- models: the invariant Inv goes on from each bits to the next, by the function where it is called. -/
theorem i_models (n : Nat) (cs : List (List Int)) (vc : Value) (g : FuncId) (cap : Array Value) (w : World) (lo : Nat) (Inv : Nat → World → Prop) (Fin : World → Prop)
    (hn : n ≤ 12) (hl : cs.length ≤ 1073741824) (hle : Hid (∀ c ∈ cs, c.length ≤ 1073741824)) (hlit : Hid (∀ c ∈ cs, ∀ x ∈ c, -12 ≤ x ∧ x ≤ 12 ∧ x ≠ 0)) (hvc : ∃ A c, vc = .slice A cs.length c)
    (hg : Enters g) (hext : Hid (∀ b w' w'', Inv b w' → Ext w' w'' → Inv b w'')) (hrd : Hid (∀ b w', Inv b w' → RdSS w' vc cs)) (h0 : Inv 0 w) (_hlo : lo ≤ w.heap.size)
    (hno : Hid (∀ b w', b < 2 ^ n → allT b cs = false → Inv b w' → Inv (b + 1) w'))
    (hyes : Hid (∀ b w', b < 2 ^ n → allT b cs = true → w.heap.size < w'.heap.size → Inv b w' → Calls Try.prog g (#[.int .i64 (b : Int)] ++ cap) w' (fun e w'' => ∃ r, e = .returned (.bool r) ∧ (r = true → Inv (b + 1) w'') ∧ (r = false → Fin w'') ∧ ∀ k, w.heap.size ≤ k → k < w'.heap.size → w''.heap[k]? = w'.heap[k]?)))
    (hend : Hid (∀ w', Inv (2 ^ n) w' → Fin w')) :
    Calls Try.prog 208 #[.agg #[.int .i64 (n : Int), vc], .func (.func g) #[] cap] w (fun e w' => e = .returned (.tuple #[]) ∧ Fin w') := by
  obtain ⟨A, c, rfl⟩ := hvc
  have hpm := wrap_pow (m := n) (by omega)
  have hp12 := pow12 (k := n) (by omega)
  have H0 := hd (hext.out 0 _ _ h0 (Ext.new w (.cells #[.int .i64 (n : Int), .slice A cs.length c] 26)))
  have HB0 := hd (blk_new (w := w) (.cells #[.int .i64 (n : Int), .slice A cs.length c] 26) rfl)
  generalize 2 ^ n = M at *
  clear h0
  go_enter Try.func208, Try.ntmps208
  go_wp2
  rw [hpm]
  go_loopw [8, 4] (fun i _ wr => ∃ b : Nat, b ≤ M ∧ i = .int .i64 (b : Int) ∧ Hid (Inv b wr) ∧ Hid (wr.heap[w.heap.size]? = some (.cells #[.int .i64 (n : Int), .slice A cs.length c] 26))) (fun i _ _ => M - (intOf i).toNat)
  case atStart => exact ⟨0, by omega, rfl, H0, HB0⟩
  case round =>
    clear H0 HB0
    obtain ⟨b, hb, rfl, HI, HB⟩ := hrel
    obtain ⟨c0, c1⟩ := blk2 HB.out
    have hs := blk_lt HB.out
    have HRD := hd (hrd.out b wr HI.out)
    by_cases hlt : b < M
    · obtain ⟨q, hq⟩ : ∃ q, allT b cs = q := ⟨_, rfl⟩
      have HQ := hd hq
      clear hq
      go_wp2_with fail
      refine (rtx (i_isModel cs _ b _ HRD.out hl hle hlit (by omega)) HQ).mono ?_
      rintro e w1 ⟨rfl, hx1⟩
      have HI1 := hd (hext.out b _ _ HI.out hx1)
      have HB1 := hd (hx1.heap HB.out)
      have hs1 := blk_lt HB1.out
      clear hx1 c0 c1 HI HB HRD
      cases q
      · have HI2 := hd (hno.out b _ hlt HQ.out HI1.out)
        go_wp2
        go_roundw
        case rel => exact ⟨b + 1, by omega, by go_num, HI2, HB1⟩
        case measure => simp [intOf]; omega
      · have HC := hd (hyes.out b _ hlt HQ.out hs1 HI1.out)
        unfold Enters at hg
        go_wp2_with fail
        refine HC.out.mono ?_
        rintro e w2 ⟨r, rfl, hr1, hr2, hk⟩
        have HR1 := hd hr1
        have HR2 := hd hr2
        have HB2 := hd ((hk w.heap.size (Nat.le_refl _) hs1).trans HB1.out)
        clear hr1 hr2 hk
        cases r
        · have HF := hd (HR2.out rfl)
          clear HR1 HR2
          go_wp2
          exact bodyPost_ret (results_none rfl _ _ _) rfl ⟨rfl, HF.out⟩
        · have HI2 := hd (HR1.out rfl)
          clear HR1 HR2
          go_wp2
          go_roundw
          case rel => exact ⟨b + 1, by omega, by go_num, HI2, HB2⟩
          case measure => simp [intOf]; omega
    · obtain rfl : b = M := by omega
      go_wp2
      exact bodyPost_end (results_none rfl _ _ _) rfl ⟨rfl, hend.out _ HI.out⟩
theorem enters_possible1 : Enters 209 := fun args w => by kernel_rfl
set_option maxRecDepth 100000 in
set_option maxHeartbeats 1600000 in
theorem i_possible1 (f : Cnf) (k : Nat) (vs : List Int) (b g P : Nat) (a1 a2 : Addr) (v : Value) (xs : List Bool) (w : World) (base : Nat) (h : RdSp w v f k vs) (hl : vs.length ≤ 12) (hp : Hid (∀ x ∈ vs, 1 ≤ x ∧ x ≤ 12)) (hb : b < 1000000)
    (h1 : w.cell? a1 = some (.slice (some ⟨g, 0, none⟩) P P)) (h2 : w.cell? a2 = some v) (ho : OwnB w base 4 (.slice (some ⟨g, 0, none⟩) P P) xs) (hx : xs.length = P) (hn : numOf vs b < P) (_hP : P ≤ 4096) :
    Calls Try.prog 209 #[.int .i64 b, .pointer (some a1), .pointer (some a2)] w (fun e w' => e = .returned (.bool true) ∧ OwnB w' base 4 (.slice (some ⟨g, 0, none⟩) P P) (xs.set (numOf vs b) true) ∧ Touch g (g + 1) w w') := by
  have HS := hd h
  obtain ⟨bl, vc, vv, rfl, -, -, -⟩ := h
  obtain ⟨⟨u0, hc⟩, hf, hst⟩ := ownB_store ho hx hn
  have HN : Hid (∀ w', RdSp w' (.pointer (some ⟨bl, 0, none⟩)) f k vs → Calls Try.prog 81 #[.pointer (some ⟨bl, 0, none⟩), .int .i64 b] w' (Ret w' (.int .i64 ((numOf vs b : Nat) : Int)))) := hd fun w' hw => i_numberOf f k vs _ b w' hw hl hp hb
  generalize numOf vs b = z at *
  clear ho hx
  go_enter Try.func209, Try.ntmps209
  go_wp2_with fail
  go_region_with (go_at_call 81; refine (HN.out _ (HS.out.ext (by first | exact Ext.refl _ | exact ext_drewN _ _ | exact (Ext.refl _).drew))).mono ?_; rintro e w1 ⟨rfl, rfl⟩)
  all_goals
    go_wp2
    go_ret
    refine ⟨rfl, ?_, ?_⟩
    · exact OwnB.ext (hst.out true) ((Ext.refl _).drew)
    · exact ((Touch.refl g (g + 1) w).setCell (p := ⟨g, z, none⟩) (by simp) (by simp) _).trans (Touch.of_ext ((Ext.refl _).drew))
theorem touch_blk2 {w w' : World} {g b : Nat} {o : Obj} (ht : Touch g (g + 1) w w') (h : w.heap[b]? = some o) (hb : b ≠ g) : w'.heap[b]? = some o := (ht.block b (blk_lt h) (by omega)).trans h
/-- What goes on from bits to bits while the values are found. -/
def PossI (w : World) (G X P : Nat) (v : Value) (vs : List Int) (cs : List (List Int)) (b : Nat) (w' : World) : Prop :=
  OwnB w' G 4 (.slice (some ⟨G, 0, none⟩) P P) (possV vs cs b) ∧ w'.heap[w.heap.size]? = some (.cells #[v] 81) ∧ w'.heap[X]? = some (.cells #[.slice (some ⟨G, 0, none⟩) P P] 41) ∧ Ext w w'
set_option maxRecDepth 100000 in
set_option maxHeartbeats 3200000 in
theorem i_possible (f : Cnf) (k : Nat) (vs : List Int) (cs : List (List Int)) (v cv : Value) (w : World) (h : RdSp w v f k vs) (hC : RdSS w cv cs) (hg : goodB f = true) (hm : Hid (∀ c ∈ cs, c ∈ f.cs)) (hl : cs.length ≤ 1048576) (h6 : vs.length ≤ 6) (hp : Hid (∀ x ∈ vs, 1 ≤ x ∧ x ≤ 12)) :
    Calls Try.prog 192 #[v, cv] w (RetB w 4 (possV vs cs (2 ^ f.n.toNat))) := by
  obtain ⟨hn0, hn12, -, -⟩ := good_inv hg
  have HLE : Hid (∀ c ∈ cs, c.length ≤ 1073741824) := hd fun c hc => by have := good_len hg c (hm.out c hc); omega
  have HLI : Hid (∀ c ∈ cs, ∀ x ∈ c, -12 ≤ x ∧ x ≤ 12 ∧ x ≠ 0) := hd fun c hc x hx => ⟨(good_lit hg c (hm.out c hc) x hx).1, (good_lit hg c (hm.out c hc) x hx).2, good_nz hg c (hm.out c hc) x hx⟩
  have HS := hd h
  have HC := hd hC
  obtain ⟨bl, vc, vv, rfl, hB, -, hV⟩ := h
  obtain ⟨A, c, rfl, h1, h2, -⟩ := hV.form
  obtain ⟨AC, cC, rfl, -⟩ := hC.form
  obtain ⟨n, fcs⟩ := f
  simp only at *
  obtain ⟨m, rfl⟩ := Int.eq_ofNat_of_zero_le hn0
  rw [Int.toNat_natCast]
  have HB0 := hd (blk_new (w := w) (.cells #[.pointer (some ⟨bl, 0, none⟩)] 81) rfl)
  have HBS := hd (blk_old (o' := .cells #[.pointer (some ⟨bl, 0, none⟩)] 81) hB)
  have hbl := blk_lt hB
  have hpw := wrap_pow (m := vs.length) (by omega)
  have hp6 := pow6 h6
  have hp12 := pow12 (k := m) (by omega)
  obtain ⟨P, hP⟩ : ∃ P, 2 ^ vs.length = P := ⟨_, rfl⟩
  have HZ : Hid (List.replicate P false = possV vs cs 0) := hd (by rw [possV_zero, hP])
  rw [hP] at hp6 hpw
  have HP := hd hP
  have HPL : Hid (∀ b, (possV vs cs b).length = P) := hd fun b => by rw [possV_len, hP]
  clear hg hV hC hB hn0 hP
  obtain ⟨d0, d1, d2, d3⟩ := blk4' HBS.out
  obtain e0 := blk1 HB0.out
  go_enter Try.func192, Try.ntmps192
  go_wp2_with (at_make; rw [hpw]; refine mkB (n := P) _ rfl _ _ rfl rfl rfl (by omega) ?_; intro w2 hown2 hx2; (have hsz : (w.alloc (.cells #[.pointer (some ⟨bl, 0, none⟩)] 81)).heap.size = w.heap.size + 1 := by simp); rw [hsz] at hown2 ⊢; rw [HZ.out] at hown2; have HB2 := hd (hx2.heap HB0.out); have HBS2 := hd (hx2.heap HBS.out); have X2 := hd ((Ext.new w _).trans hx2); (have hs2 : w.heap.size + 1 < w2.heap.size := own_lt hown2 _ rfl); have HO2 := hd hown2; clear hown2 hx2 hsz d0 d1 d2 d3 e0; have HB3 := hd (blk_old (o' := .cells #[.slice (some ⟨w.heap.size + 1, 0, none⟩) P P] 41) HB2.out); have HBS3 := hd (blk_old (o' := .cells #[.slice (some ⟨w.heap.size + 1, 0, none⟩) P P] 41) HBS2.out); obtain e0 := blk1 HB3.out; obtain ⟨d0, d1, d2, d3⟩ := blk4' HBS3.out)
  have HX3 := hd (blk_new (w := w2) (.cells #[.slice (some ⟨w.heap.size + 1, 0, none⟩) P P] 41) rfl)
  have X3 : Hid (Ext w (w2.alloc (.cells #[.slice (some ⟨w.heap.size + 1, 0, none⟩) P P] 41))) := hd (X2.out.alloc _)
  have HO3 := hd (OwnB.ext HO2.out (Ext.new w2 (.cells #[.slice (some ⟨w.heap.size + 1, 0, none⟩) P P] 41)))
  clear e0 d0 d1 d2 d3 HO2 X2 HB2 HBS2 HBS3 HBS HB0
  refine (i_models m cs _ 209 #[.pointer (some ⟨w2.heap.size, 0, none⟩), .pointer (some ⟨w.heap.size, 0, none⟩)] _ (w.heap.size + 1) (PossI w (w.heap.size + 1) w2.heap.size P (.pointer (some ⟨bl, 0, none⟩)) vs cs) (PossI w (w.heap.size + 1) w2.heap.size P (.pointer (some ⟨bl, 0, none⟩)) vs cs (2 ^ m)) (by omega) (by omega) HLE HLI ⟨_, _, rfl⟩ enters_possible1 (hd fun b w' w'' hI hx => ?_) (hd fun b w' hI => ?_) ?_ (by simp; omega) (hd fun b w' _ hq hI => ?_) (hd fun b w' hb hq hsz hI => ?_) (hd fun w' hI => hI)).mono ?_
  · exact ⟨OwnB.ext hI.1 hx, hx.heap hI.2.1, hx.heap hI.2.2.1, hI.2.2.2.trans hx⟩
  · exact HC.out.ext hI.2.2.2
  · exact ⟨HO3.out, HB3.out, HX3.out, X3.out⟩
  · exact ⟨by rw [possV_no hq]; exact hI.1, hI.2⟩
  · have hn : numOf vs b < P := by rw [← HP.out]; exact numU_lt vs b vs.length
    have hb' : b < 4096 := by omega
    refine (i_possible1 _ k vs b (w.heap.size + 1) P _ _ _ (possV vs cs b) w' _ (HS.out.ext hI.2.2.2) (by omega) hp (by omega) (blk1 hI.2.2.1) (blk1 hI.2.1) hI.1 (HPL.out b) hn (by omega)).mono ?_
    rintro e w'' ⟨rfl, ho, ht⟩
    refine ⟨true, rfl, fun _ => ⟨by rw [possV_yes hq]; exact ho, touch_blk2 ht hI.2.1 (by omega), touch_blk2 ht hI.2.2.1 (by omega), touch_ext hI.2.2.2 ht (by omega)⟩, fun h => (by cases h), fun k hk hk' => ht.block k hk' (.inr (by simp at hk; omega))⟩
  · rintro e w3 ⟨rfl, hI⟩
    obtain ⟨ho, -, hx, hx3⟩ := hI
    have HO := hd ho
    have HXX := hd hx3
    have e0 := blk1 hx
    clear ho hx hx3
    go_wp2
    go_ret
    exact ⟨_, rfl, own_rebase HO.out (by omega), HXX.out⟩
end Go.Proofs.Ytlegfibfjhfkhaa
