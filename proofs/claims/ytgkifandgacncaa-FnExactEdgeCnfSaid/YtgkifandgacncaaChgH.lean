/-
  Charged graphs: the laws' own helpers: measure, copy, compare, mark, ask again. Conditions: lengths up to 2^20.
-/
import Derived.Test.YtgkifandgacncaaChg
namespace Go.Proofs.Ytgkifandgacncaa
open Go.RowKit

def szC (g : Chg) (left : Int) : Int := if szI g.es.length left < 0 then -1 else szI g.cs.length (szI g.es.length left)
theorem szC_bd (g : Chg) (left : Int) (h : left ≤ 1048576) : -1 ≤ szC g left ∧ szC g left ≤ 1048576 := by
  unfold szC
  split
  · omega
  · exact szI_bd _ _ (szI_bd _ _ h).2
theorem szI_ok {n : Nat} {left : Int} (h : ¬ szI n left < 0) : (n : Int) ≤ left ∧ szI n left = left - n := by
  unfold szI at h ⊢
  split at h
  · omega
  · rename_i h1; rw [if_neg h1]; omega
theorem szC_ok {g : Chg} {left : Int} (h : ¬ szC g left < 0) : (g.es.length : Int) ≤ left ∧ (g.cs.length : Int) ≤ left := by
  unfold szC at h
  split at h
  · omega
  · rename_i h1
    have a := szI_ok h1
    have b := szI_ok h
    omega
/-- A graph of the call's own, in blocks from lo on and below hi. -/
def OwnC (w : World) (lo hi : Nat) (v : Value) (g : Chg) : Prop := ∃ ve vc, v = .agg #[.int .i64 g.n, ve, vc] ∧ OwnP w lo 73 ve g.es ∧ OwnI w lo 3 vc g.cs ∧ (∀ b, ve.ownBlock = some b → b < hi) ∧ (∀ b, vc.ownBlock = some b → b < hi)
section
variable {w w' : World} {lo hi : Nat} {v : Value} {g : Chg}
theorem OwnC.ext (h : OwnC w lo hi v g) (he : Ext w w') : OwnC w' lo hi v g := by
  obtain ⟨ve, vc, h1, h2, h3, h4, h5⟩ := h
  exact ⟨ve, vc, h1, h2.ext he, h3.ext he, h4, h5⟩
theorem OwnC.rd (h : OwnC w lo hi v g) : RdC w v g := by
  obtain ⟨ve, vc, h1, h2, h3, h4, h5⟩ := h
  exact ⟨ve, vc, h1, h2.rd, h3.rd⟩
theorem OwnC.touch {lo' hi' : Nat} (h : OwnC w lo hi v g) (ht : Touch lo' hi' w w') (hd : hi ≤ lo' ∨ hi' ≤ lo) : OwnC w' lo hi v g := by
  obtain ⟨ve, vc, h1, h2, h3, h4, h5⟩ := h
  refine ⟨ve, vc, h1, own_touch h2 ht fun b hb => ?_, own_touch h3 ht fun b hb => ?_, h4, h5⟩
  · have := h4 b hb; have := (own_blocks h2 b hb).1; omega
  · have := h5 b hb; have := (own_blocks h3 b hb).1; omega
end
theorem OwnC.form {w : World} {lo hi : Nat} {v : Value} {g : Chg} (h : OwnC w lo hi v g) : ∃ A c A' c', v = .agg #[.int .i64 g.n, .slice A g.es.length c, .slice A' g.cs.length c'] ∧ Hid (OwnC w lo hi (.agg #[.int .i64 g.n, .slice A g.es.length c, .slice A' g.cs.length c']) g) := by
  have h' := h
  obtain ⟨ve, vc, rfl, h2, h3, _⟩ := h'
  obtain ⟨A, c, rfl, _⟩ := h2.form
  obtain ⟨A', c', rfl, _⟩ := h3.form
  exact ⟨A, c, A', c', rfl, hd h⟩
theorem touch_blk {w w' : World} {lo hi b : Nat} {o : Obj} (ht : Touch lo hi w w') (h : w.heap[b]? = some o) (hb : b < lo ∨ hi ≤ b) : w'.heap[b]? = some o := (ht.block b (Array.getElem?_eq_some_iff.1 h).1 hb).trans h
/-- What marks from k0 on leave. -/
def RdCm (w : World) (v : Value) (g : Chg) (k0 : Int) : Prop := ∃ ve vc, v = .agg #[.int .i64 g.n, ve, vc] ∧ RdN w 2 ve g.es.length (seqI k0 (g.es.length * 2)) ∧ RdI w vc (seqI (k0 + g.es.length * 2) g.cs.length)
theorem RdCm.ext {w w' : World} {v : Value} {g : Chg} {k0 : Int} (h : RdCm w v g k0) (he : Ext w w') : RdCm w' v g k0 := by
  obtain ⟨ve, vc, h1, h2, h3⟩ := h
  exact ⟨ve, vc, h1, h2.ext he, h3.ext he⟩
set_option maxHeartbeats 800000 in
theorem l_szCharged (g : Chg) (v : Value) (left : Int) (w : World) (h : RdC w v g) (h2 : 0 ≤ left) (h3 : left ≤ 1048576) :
    Calls Try.prog 6 #[v, .int .i64 left] w (RetX w (.int .i64 (szC g left))) := by
  obtain ⟨ve, vc, rfl, hE, hC⟩ := h
  obtain ⟨A, c, rfl, h1, h2', -⟩ := hE.form
  obtain ⟨A', c', rfl, h1', h2'', -⟩ := hC.form
  clear hE hC
  unfold maxLen at h2' h2''
  have hbd := szI_bd g.es.length left h3
  have hbd2 := szI_bd g.cs.length (szI g.es.length left) hbd.2
  unfold szC
  generalize hz : szI g.es.length left = z at *
  generalize hz2 : szI g.cs.length z = z2 at *
  have HZ := hd hz
  have HZ2 := hd hz2
  clear hz hz2
  go_enter Try.func6, Try.ntmps6
  by_cases h0 : z < 0
  · rw [if_pos h0]
    go_wp2_with (go_at_call 19; refine (l_szIntA2S _ _ _ _ _ (by omega) (by omega) (by omega)).mono ?_; rintro e w' ⟨rfl, rfl⟩; rw [HZ.out])
    go_ret
    exact RetX.mk rfl (Ext.new _ _)
  · rw [if_neg h0]
    by_cases h02 : z2 < 0
    · obtain rfl : z2 = -1 := by omega
      go_wp2_with (first | (go_at_call 19; refine (l_szIntA2S _ _ _ _ _ (by omega) (by omega) (by omega)).mono ?_; rintro e w' ⟨rfl, rfl⟩; rw [HZ.out]) | (go_at_call 20; refine (l_szIntS _ _ _ _ _ (by omega) (by omega) (by omega)).mono ?_; rintro e w' ⟨rfl, rfl⟩; rw [HZ2.out]))
      go_ret
      exact RetX.mk rfl (Ext.new _ _)
    · go_wp2_with (first | (go_at_call 19; refine (l_szIntA2S _ _ _ _ _ (by omega) (by omega) (by omega)).mono ?_; rintro e w' ⟨rfl, rfl⟩; rw [HZ.out]) | (go_at_call 20; refine (l_szIntS _ _ _ _ _ (by omega) (by omega) (by omega)).mono ?_; rintro e w' ⟨rfl, rfl⟩; rw [HZ2.out]))
      go_ret
      exact RetX.mk rfl (Ext.new _ _)
set_option maxHeartbeats 800000 in
theorem l_toCharged (g : Chg) (v : Value) (w : World) (h : RdC w v g) (hl : g.es.length ≤ 536870912) (hl2 : g.cs.length ≤ 536870912) :
    Calls Try.prog 8 #[v] w (fun e w' => ∃ u, e = .returned u ∧ OwnC w' w.heap.size w'.heap.size u g ∧ Ext w w') := by
  obtain ⟨ve, vc, rfl, hE, hC⟩ := h
  have HE := hd hE
  have HC := hd hC
  clear hE hC
  go_enter Try.func8, Try.ntmps8
  go_wp2_with fail
  refine (l_toIntA2S g.es _ _ (HE.out.ext (by exact ((Ext.new _ _).alloc _).alloc _)) hl).mono ?_
  rintro e w1 ⟨u1, rfl, hu1, hx1⟩
  have X1 : Hid (Ext w w1) := hd (Ext.trans (by exact ((Ext.new _ _).alloc _).alloc _) hx1)
  have B0 := hd (hx1.heap (g := w.heap.size) (o := .cells #[.int .i64 g.n, ve, vc] 25) (blk_old (blk_old (blk_new _ rfl))))
  have B1 := hd (hx1.heap (g := w.heap.size + 1) (o := .cells #[.int .i64 0, .slice none 0 0, .slice none 0 0] 32) (blk_old (blk_new _ (by simp))))
  have B2 := hd (hx1.heap (g := w.heap.size + 1 + 1) (o := .cells #[.int .i64 g.n, .slice none 0 0, .slice none 0 0] 32) (blk_new _ (by simp)))
  have hs1 : w.heap.size + 1 + 1 < w1.heap.size := by have := hx1.size; simp at this; omega
  obtain ⟨A1, n1, rfl, O1⟩ := hu1.form
  clear hu1 hx1
  obtain ⟨c0, c1, c2⟩ := blk3 B2.out
  obtain ⟨f0, f1, f2⟩ := blk3f B2.out
  obtain ⟨-, -, a2⟩ := blk3 B0.out
  go_wp2_with fail
  clear c0 c1 c2 f0 f1 f2 a2
  have B2' := hd (blk3_set1 (u := .slice A1 g.es.length n1) B2.out)
  have B1' := hd (blk_other (p := ⟨w.heap.size + 1 + 1, 1, none⟩) (u := .slice A1 g.es.length n1) B1.out (by simp))
  have X1' : Hid (Ext w (w1.setCell ⟨w.heap.size + 1 + 1, 1, none⟩ (.slice A1 g.es.length n1))) := hd (X1.out.setCell (by simp; omega) _)
  have O1' := hd (own_touch O1.out ((Touch.refl (w.heap.size + 1 + 1) (w.heap.size + 1 + 1 + 1) w1).setCell (p := ⟨w.heap.size + 1 + 1, 1, none⟩) (by simp) (by simp) (.slice A1 g.es.length n1)) (fun b hb => by have := (own_blocks O1.out b hb).1; simp at this; omega))
  clear B2 B1 X1 O1
  refine (l_toIntS g.cs _ _ (HC.out.ext X1'.out) (by omega)).mono ?_
  rintro e w2 ⟨u2, rfl, hu2, hx2⟩
  obtain ⟨A2, n2, rfl, O2⟩ := hu2.form
  clear hu2
  have C2 := hd (hx2.heap B2'.out)
  have C1 := hd (hx2.heap B1'.out)
  have O1'' := hd (own_ext O1'.out hx2)
  have X2 := hd (X1'.out.trans hx2)
  have hs2 : w1.heap.size ≤ w2.heap.size := by have := hx2.size; simpa [size_setCell] using this
  clear B2' B1' O1' X1' hx2
  obtain ⟨c0, c1, c2⟩ := blk3 C2.out
  obtain ⟨f0, f1, f2⟩ := blk3f C2.out
  obtain ⟨d0, d1, d2⟩ := blk3 C1.out
  obtain ⟨g0, g1, g2⟩ := blk3f C1.out
  go_wp2
  have HT : Hid (∀ u0 u1 u2 u3, Touch (w.heap.size + 1) (w.heap.size + 1 + 1 + 1) w2 ((((w2.setCell ⟨w.heap.size + 1 + 1, 2, none⟩ u0).setCell ⟨w.heap.size + 1, 0, none⟩ u1).setCell ⟨w.heap.size + 1, 1, none⟩ u2).setCell ⟨w.heap.size + 1, 2, none⟩ u3)) := hd fun u0 u1 u2 u3 =>
    ((((Touch.refl _ _ _).setCell (by simp) (by simp) _).setCell (by simp) (by simp) _).setCell (by simp) (by simp) _).setCell (by simp) (by simp) _
  refine bodyPost_ret (v := .agg #[.int .i64 g.n, .slice A1 g.es.length n1, .slice A2 g.cs.length n2]) (by simp [results, Try.results8, go_sem, d0, d1, d2]) rfl ⟨_, rfl, ⟨_, _, rfl, ?_, ?_, ?_, ?_⟩, (((X2.out.setCell (by simp; omega) _).setCell (by simp) _).setCell (by simp) _).setCell (by simp) _⟩
  · exact own_rebase (own_touch O1''.out (HT.out _ _ _ _) (fun b hb => by have := (own_blocks O1''.out b hb).1; simp at this; omega)) (by simp; omega)
  · exact own_rebase (own_touch O2.out (HT.out _ _ _ _) (fun b hb => by have := (own_blocks O2.out b hb).1; simp at this; omega)) (by simp; omega)
  · intro b hb; have := (own_blocks O1''.out b hb).2; simpa [size_setCell] using this
  · intro b hb; have := (own_blocks O2.out b hb).2; simpa [size_setCell] using this
set_option maxHeartbeats 800000 in
theorem l_eqCharged (g : Chg) (v v' : Value) (w : World) (h : RdC w v g) (h' : RdC w v' g) (hl : g.es.length ≤ 536870912) (hl2 : g.cs.length ≤ 536870912) :
    Calls Try.prog 11 #[v, v'] w (RetX w (.bool true)) := by
  obtain ⟨ve, vc, rfl, hE, hC⟩ := h
  obtain ⟨ve', vc', rfl, hE', hC'⟩ := h'
  have HE := hd hE
  have HC := hd hC
  have HE' := hd hE'
  have HC' := hd hC'
  clear hE hC hE' hC'
  have hb : ∀ n : Int, (n != n) = false := fun n => by simp
  have hbn := hb g.n
  clear hb
  go_enter Try.func11, Try.ntmps11
  go_wp2_with fail
  have X0 : Hid (Ext w ((w.alloc (.cells #[.int .i64 g.n, ve, vc] 32)).alloc (.cells #[.int .i64 g.n, ve', vc'] 32))) := hd ((Ext.new _ _).alloc _)
  refine (l_eqIntA2S g.es _ _ _ (HE.out.ext X0.out) (HE'.out.ext X0.out) hl).mono ?_
  rintro e w1 ⟨rfl, hx1⟩
  have B0 := hd (hx1.heap (g := w.heap.size) (o := .cells #[.int .i64 g.n, ve, vc] 32) (blk_old (blk_new _ rfl)))
  have B1 := hd (hx1.heap (g := w.heap.size + 1) (o := .cells #[.int .i64 g.n, ve', vc'] 32) (blk_new _ (by simp)))
  have X1 := hd (X0.out.trans hx1)
  clear X0 hx1
  obtain ⟨-, -, c2⟩ := blk3 B0.out
  obtain ⟨-, -, d2⟩ := blk3 B1.out
  go_wp2_with fail
  refine (rtq (l_eqIntS g.cs g.cs _ _ _ (HC.out.ext X1.out) (HC'.out.ext X1.out) (by omega) (by omega)) (hd (eqI_refl _))).mono ?_
  rintro e w2 ⟨rfl, n, rfl⟩
  go_wp2
  go_ret
  exact RetX.mk rfl (X1.out.drewN _)
set_option maxHeartbeats 800000 in
theorem l_markCharged (g : Chg) (v : Value) (k0 : Int) (w : World) (lo hi : Nat) (h : OwnC w lo hi v g) (hh : hi ≤ w.heap.size) (hl : g.es.length ≤ 1048576) (hl2 : g.cs.length ≤ 1048576) (hk0 : 0 ≤ k0) (hk1 : k0 ≤ 1000000000) :
    Calls Try.prog 12 #[v, .int .i64 k0] w fun e w' => e = .returned (.int .i64 (k0 + g.es.length * 2 + g.cs.length)) ∧ RdCm w' v g k0 ∧ Touch lo hi w w' := by
  obtain ⟨ve, vc, rfl, hE, hC, hbe, hbc⟩ := h
  have HE := hd (OwnP.ext hE (Ext.new w (.cells #[.int .i64 g.n, ve, vc] 32)))
  have HC := hd (OwnI.ext hC (Ext.new w (.cells #[.int .i64 g.n, ve, vc] 32)))
  have HBE := hd hbe
  have HBC := hd hbc
  clear hE hC hbe hbc
  go_enter Try.func12, Try.ntmps12
  go_wp2_with fail
  refine (l_markIntA2S g.es _ k0 _ lo HE.out (by omega) (by omega) (by omega)).mono ?_
  rintro e w1 ⟨rfl, hu1, hg1⟩
  have T1 : Hid (Touch lo hi w w1) := hd ((Touch.of_ext (Ext.new _ _)).trans (touch_of_grown hg1 (fun b hb => ⟨(own_blocks HE.out b hb).1, HBE.out b hb⟩)))
  have HC1 : Hid (OwnI w1 lo 3 vc g.cs) := hd (own_grown HC.out hg1 (fun b h1 h2 => own_ne HC.out HE.out (by decide) h1 h2))
  have hcell : w1.cell? ⟨w.heap.size, 2, none⟩ = some vc := by
    have B := hg1.block w.heap.size (by simp) (fun e => by have := HBE.out _ e.symm; omega)
    exact (blk3 (B.trans (blk_new _ rfl))).2.2
  have U1 := hd hu1
  have G1 := hd hg1
  clear hu1 hg1
  go_wp2_with fail
  refine (l_markIntS g.cs _ (k0 + g.es.length * 2) _ lo HC1.out (by omega) (by omega) (by omega)).mono ?_
  rintro e w2 ⟨rfl, hu2, hg2⟩
  go_wp2
  go_ret
  refine ⟨rfl, ⟨ve, vc, rfl, ?_, hu2.rd⟩, T1.out.trans (touch_of_grown hg2 (fun b hb => ⟨(own_blocks HC1.out b hb).1, HBC.out b hb⟩))⟩
  exact OwnN.rd (own_grown U1.out hg2 (fun b h1 h2 => own_ne U1.out HC1.out (by decide) h1 h2))
end Go.Proofs.Ytgkifandgacncaa
