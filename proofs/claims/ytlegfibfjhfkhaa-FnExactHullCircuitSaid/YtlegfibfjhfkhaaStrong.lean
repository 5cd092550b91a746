/-
  StrongestValues and WeakestValues of both sides. Conditions: sizes up to 2^20.
-/
import Derived.Test.YtlegfibfjhfkhaaPoss
namespace Go.Proofs.Ytlegfibfjhfkhaa
open Go.RowKit
def someOk (f : Cnf) (k : Nat) : Bool := decide ((bothV f k f.n.toNat).length ≤ 6)
def someV (f : Cnf) (k : Nat) (L : List (List Int)) : List Bool := if someOk f k then possV (bothV f k f.n.toNat) L (2 ^ f.n.toNat) else []
def sharedB (f : Cnf) (k : Int) : Bool := askB f k && someOk f k.toNat
def strongV (f : Cnf) (k : Int) : List Bool := if askB f k then someV f k.toNat (f.cs.take k.toNat) else []
def weakV (f : Cnf) (k : Int) : List Bool := if askB f k then (someV f k.toNat (f.cs.drop k.toNat)).map (!·) else []
theorem someV_len (f : Cnf) (k : Nat) (L : List (List Int)) : (someV f k L).length ≤ 64 := by
  unfold someV
  split
  · rename_i h
    rw [possV_len]
    exact pow6 (by simpa [someOk] using h)
  · simp
theorem strongV_bd (f : Cnf) (k : Int) : Bd_BoolS (strongV f k) := by
  unfold strongV Bd_BoolS
  split
  · have := someV_len f k.toNat (f.cs.take k.toNat); omega
  · simp
theorem weakV_bd (f : Cnf) (k : Int) : Bd_BoolS (weakV f k) := by
  unfold weakV Bd_BoolS
  split
  · have := someV_len f k.toNat (f.cs.drop k.toNat); rw [List.length_map]; omega
  · simp
/-- A call returns a new slice of the bools xs and b, in blocks of its own. -/
def RetB2 (w : World) (xs : List Bool) (b : Bool) : Ending → World → Prop := fun en w' => ∃ u, en = .returned (.tuple #[u, .bool b]) ∧ Own_BoolS w' w.heap.size w'.heap.size u xs ∧ Ext w w'
theorem RetB2.mk {w w' : World} {xs : List Bool} {b b' : Bool} {v : Value} (hb : b' = b) (h : OwnB w' w.heap.size 4 v xs) (hx : Ext w w') : RetB2 w xs b (.returned (.tuple #[v, .bool b'])) w' := ⟨v, by rw [hb], .mk h, hx⟩
theorem ownB_emp {w0 w : World} (h : w0.heap.size ≤ w.heap.size) : OwnB (w.alloc (.cells #[] 4)) w0.heap.size 4 (.slice (some ⟨w.heap.size, 0, none⟩) 0 0) [] := own_lit w w0.heap.size 4 1 #[] 0 h (Nat.zero_le _) rfl
theorem ownB_nil (w : World) (base : Nat) : OwnB w base 4 (.slice none 0 0) [] := own_nil _ _ _ _
theorem split_not {xs : List Bool} {k : Nat} (hk : k < xs.length) : (((xs.take k).map (!·)) ++ xs.drop k).set k (!xs[k]) = ((xs.take (k + 1)).map (!·)) ++ xs.drop (k + 1) := by
  have hdc : xs.drop k = xs[k] :: xs.drop (k + 1) := List.drop_eq_getElem_cons hk
  have hl : ((xs.take k).map (!·)).length = k := by simp; omega
  rw [List.set_append_right _ _ (by omega), hl, Nat.sub_self, hdc, List.set_cons_zero, List.take_succ_eq_append_getElem hk, List.map_append, List.append_assoc]
  rfl
theorem ownB_at {w : World} {base : Nat} {e : TypeId} {A : Option Addr} {n c : Nat} {xs : List Bool} (h : OwnB w base e (.slice A n c) xs) (hl : xs.length = n) {j : Nat} (hj : j < n) :
    ∃ g, A = some ⟨g, 0, none⟩ ∧ base ≤ g ∧ w.cell? ⟨g, j, none⟩ = some (.bool (xs[j]'(by omega))) ∧ w.frozen? ⟨g, j, none⟩ = false ∧ Hid (∀ x, OwnB (w.setCell ⟨g, j, none⟩ (.bool x)) base e (.slice (some ⟨g, 0, none⟩) n c) (xs.set j x)) := by
  subst hl
  rcases own_form h with ⟨hv, _⟩ | ⟨g, cap, hv, hgl, _⟩
  · injection hv with _ h2 _
    omega
  · injection hv with hv1 hv2 hv3
    subst hv1; subst hv3
    obtain ⟨-, hf, hst⟩ := ownB_store h rfl hj
    obtain ⟨a, ha, hc⟩ := RdB.at_ (hd h.rd) hj
    injection ha with ha
    subst ha
    have e0 : (⟨g, 0, none⟩ : Addr).add j = ⟨g, j, none⟩ := by unfold Addr.add; split <;> simp_all
    rw [e0] at hc
    exact ⟨g, rfl, hgl, hc, hf, hst⟩
theorem flip_get {xs : List Bool} {j : Nat} (hj : j < xs.length) (h : j < ((xs.take j).map (!·) ++ xs.drop j).length) : ((xs.take j).map (!·) ++ xs.drop j)[j] = xs[j] := by
  rw [List.getElem_append_right (by simp; omega)]
  simp [Nat.min_eq_left (Nat.le_of_lt hj)]
theorem flip_len {xs : List Bool} {j : Nat} (hj : j ≤ xs.length) : ((xs.take j).map (!·) ++ xs.drop j).length = xs.length := by simp; omega
theorem s_l29Some_all (f : Cnf) (v lv : Value) (L : List (List Int)) (k : Nat) (w : World) (h : Rd_Cnf w v f) (b : Bd_Cnf f) (hg : goodB f = true) (hk : k ≤ f.cs.length) (hL : RdSS w lv L) (hLm : Hid (∀ c ∈ L, c ∈ f.cs)) (hLl : L.length ≤ 1048576) :
    Calls Try.prog 175 #[v, .int .i64 k, lv] w (fun e w' => ∃ u, e = .returned (.tuple #[u, .bool (someOk f k)]) ∧ OwnB w' w.heap.size 4 u (someV f k L) ∧ Ext w w') := by
  by_cases h6 : (bothV f k f.n.toNat).length ≤ 6
  · have e : someOk f k = true := decide_eq_true h6
    unfold someV
    rw [e, if_pos rfl]
    exact s_l29Some f v lv L k w h b hg hk hL hLm hLl h6
  · have e : someOk f k = false := decide_eq_false h6
    unfold someV
    rw [e]
    exact s_l29Some_big f v lv L k w h b hg hk hL (by omega)
set_option maxRecDepth 100000 in
set_option maxHeartbeats 3200000 in
theorem s_StrongestValues (f : Cnf) (v : Value) (ki : Int) (w : World) (h : Rd_Cnf w v f) (b : Bd_Cnf f) (_ : I64_Cnf f) (_ : I64 ki) :
    Calls Try.prog 144 #[v, .int .i64 ki] w (RetB2 w (strongV f ki) (sharedB f ki)) := by
  obtain ⟨vc, rfl, hC⟩ := h
  obtain ⟨A, c, rfl, h1, h2, ha⟩ := hC.form
  have HB := hd b
  obtain ⟨q, hq⟩ : ∃ q, askB f ki = q := ⟨_, rfl⟩
  have HQ := hd hq
  have HRD : Hid (∀ w' vc, RdSS w' vc f.cs → Rd_Cnf w' (.agg #[.int .i64 f.n, vc]) f) := hd fun w' vc hx => ⟨vc, rfl, hx⟩
  cases q
  · have X0 : Hid (Ext w (w.alloc (.cells #[.int .i64 f.n, .slice A f.cs.length c] 26))) := hd (Ext.new _ _)
    have HV := hd (HRD.out _ _ (RdSS.ext hC X0.out))
    clear hq hC b
    go_enter Try.func144, Try.ntmps144
    go_wp2_with fail
    refine (rtx (s_l29Asked f _ ki _ HV.out HB.out) HQ).mono ?_
    rintro e w1 ⟨rfl, hx1⟩
    have X1 := hd (X0.out.trans hx1)
    clear hx1
    go_wp2
    go_ret2
    exact RetB2.mk (by unfold sharedB; rw [HQ.out]; rfl) (by unfold strongV; rw [HQ.out]; exact ownB_emp X1.out.size) (X1.out.alloc _)
  · obtain ⟨hg, k, rfl, hk⟩ := ask_inv hq
    have HK := hd hk
    have hl := b.1
    have HTL : (f.cs.take k).length ≤ 1048576 := by simp; omega
    have HSO : Hid (∀ w' lv, Rd_Cnf w' (.agg #[.int .i64 f.n, .slice A f.cs.length c]) f → RdSS w' lv (f.cs.take k) → Calls Try.prog 175 #[.agg #[.int .i64 f.n, .slice A f.cs.length c], .int .i64 k, lv] w' (fun e w'' => ∃ u, e = .returned (.tuple #[u, .bool (sharedB f k)]) ∧ OwnB w'' w'.heap.size 4 u (strongV f k) ∧ Ext w' w'')) := hd fun w' lv hx hL => by
      have := s_l29Some_all f _ lv (f.cs.take k) k w' hx b hg hk hL (hd mem_t) (by omega)
      unfold strongV sharedB
      rw [hq, if_pos rfl, Int.toNat_natCast]
      exact this
    have HASK : Hid (∀ w', Rd_Cnf w' (.agg #[.int .i64 f.n, .slice A f.cs.length c]) f → Calls Try.prog 61 #[.agg #[.int .i64 f.n, .slice A f.cs.length c], .int .i64 k] w' (RetX w' (.bool true))) := hd fun w' hx => rtx (s_l29Asked f _ k w' hx b) HQ
    generalize strongV f k = SV at *
    generalize sharedB f k = SB at *
    clear hq hg HQ HTL HB b
    obtain ⟨n, cs⟩ := f
    simp only at *
    clear hC
    have e1 : (0 : Int) ≤ (k : Int) := by omega
    have e2 : (k : Int) ≤ (cs.length : Int) := by omega
    rcases rdSS_cut ha.out hk with ⟨rfl, h0, rfl⟩ | ⟨a, rfl, rfl, hck⟩ | ⟨a, rfl, hck⟩
    · subst h0
      have HL : Hid (RdSS w (.slice none 0 c) (([] : List (List Int)).take 0)) := hd (rdSS_takeZ h2)
      have HRR : Hid (RdSS w (.slice none 0 c) (([] : List (List Int)).drop 0)) := hd (rdSS_dropZ (by simp) h2)
      have HN : Hid (([] : List (List Int)).length = 0) := hd rfl
      have HC2 := hd (RdSS.ext ha.out (Ext.new w (.cells #[.int .i64 n, .slice none 0 c] 26)))
      have HB0 := hd (blk_new (w := w) (.cells #[.int .i64 n, .slice none 0 c] 26) rfl)
      go_enter Try.func144, Try.ntmps144
      go_wp2_with fail
      refine (HASK.out _ (HRD.out _ _ HC2.out)).mono ?_
      rintro e w1 ⟨rfl, hx⟩
      have X1 := hd ((Ext.new w _).trans hx)
      have HV1 := hd (HRD.out _ _ (RdSS.ext HC2.out hx))
      obtain ⟨c0, c1⟩ := blk2 (hx.heap HB0.out)
      clear hx
      go_wp2_with fail
      go_region_with (go_at_call 175; refine (HSO.out _ _ (HV1.out.ext (by first | exact Ext.refl _ | exact (Ext.refl _).drew | exact ext_drewN _ _)) (HL.out.ext (by first | exact X1.out | exact X1.out.drew | exact X1.out.drewN _))).mono ?_; rintro e w2 ⟨u, rfl, hu, hx2⟩)
      all_goals
        have X2 : Hid (Ext w w2) := hd (Ext.trans (by first | exact X1.out | exact X1.out.drew | exact X1.out.drewN _) hx2)
        have HU := hd hu
        clear hx2 hu
        go_wp2
        go_ret2
        exact RetB2.mk rfl (own_rebase HU.out (by exact X1.out.size)) X2.out
    · generalize hN : cs.length = N at *
      obtain rfl : N = c := by omega
      have HN := hd hN
      clear hN hck
      have HL := hd (rdSS_take (n := N) ha.out (by rw [HN.out]; exact Nat.le_refl N) : RdSS w (.slice (some a) N N) (cs.take N))
      have HRR := hd (rdSS_dropZ (A := some a) (k := N) (c := 0) (xss := cs) (w := w) (by rw [HN.out]; exact Nat.le_refl _) (Nat.zero_le _))
      have HC2 := hd (RdSS.ext ha.out (Ext.new w (.cells #[.int .i64 n, .slice (some a) N N] 26)))
      have HB0 := hd (blk_new (w := w) (.cells #[.int .i64 n, .slice (some a) N N] 26) rfl)
      go_enter Try.func144, Try.ntmps144
      go_wp2_with fail
      refine (HASK.out _ (HRD.out _ _ HC2.out)).mono ?_
      rintro e w1 ⟨rfl, hx⟩
      have X1 := hd ((Ext.new w _).trans hx)
      have HV1 := hd (HRD.out _ _ (RdSS.ext HC2.out hx))
      obtain ⟨c0, c1⟩ := blk2 (hx.heap HB0.out)
      clear hx
      go_wp2_with fail
      go_region_with (go_at_call 175; refine (HSO.out _ _ (HV1.out.ext (by first | exact Ext.refl _ | exact (Ext.refl _).drew | exact ext_drewN _ _)) (HL.out.ext (by first | exact X1.out | exact X1.out.drew | exact X1.out.drewN _))).mono ?_; rintro e w2 ⟨u, rfl, hu, hx2⟩)
      all_goals
        have X2 : Hid (Ext w w2) := hd (Ext.trans (by first | exact X1.out | exact X1.out.drew | exact X1.out.drewN _) hx2)
        have HU := hd hu
        clear hx2 hu
        go_wp2
        go_ret2
        exact RetB2.mk rfl (own_rebase HU.out (by exact X1.out.size)) X2.out
    · have HN : Hid (cs.length = cs.length) := hd rfl
      have HL := hd (rdSS_take ha.out hk)
      have HRR := hd (rdSS_drop ha.out hk)
      have hkc : k ≤ c := by omega
      have hkn : ¬ c = k := by omega
      have HC2 := hd (RdSS.ext ha.out (Ext.new w (.cells #[.int .i64 n, .slice (some a) cs.length c] 26)))
      have HB0 := hd (blk_new (w := w) (.cells #[.int .i64 n, .slice (some a) cs.length c] 26) rfl)
      go_enter Try.func144, Try.ntmps144
      go_wp2_with fail
      refine (HASK.out _ (HRD.out _ _ HC2.out)).mono ?_
      rintro e w1 ⟨rfl, hx⟩
      have X1 := hd ((Ext.new w _).trans hx)
      have HV1 := hd (HRD.out _ _ (RdSS.ext HC2.out hx))
      obtain ⟨c0, c1⟩ := blk2 (hx.heap HB0.out)
      clear hx
      go_wp2_with fail
      go_region_with (go_at_call 175; refine (HSO.out _ _ (HV1.out.ext (by first | exact Ext.refl _ | exact (Ext.refl _).drew | exact ext_drewN _ _)) (HL.out.ext (by first | exact X1.out | exact X1.out.drew | exact X1.out.drewN _))).mono ?_; rintro e w2 ⟨u, rfl, hu, hx2⟩)
      all_goals
        have X2 : Hid (Ext w w2) := hd (Ext.trans (by first | exact X1.out | exact X1.out.drew | exact X1.out.drewN _) hx2)
        have HU := hd hu
        clear hx2 hu
        go_wp2
        go_ret2
        exact RetB2.mk rfl (own_rebase HU.out (by exact X1.out.size)) X2.out
end Go.Proofs.Ytlegfibfjhfkhaa
