/-
  The kind Dag: a struct with a slice of slices: words, and the law's helpers. Condition: sizes up to 2^20.
-/
import Derived.Test.YtapgpjhogdmjbaaCnf
namespace Go.Proofs.Ytapgpjhogdmjbaa
open Go.RowKit
theorem cell_ofD {w : World} {b : Nat} {x : Value} {e : TypeId} {fr : Nat × Nat} (h : w.heap[b]? = some (.cells #[x] e fr)) : w.cell? ⟨b, 0, none⟩ = some x := by simp [World.cell?, h]
theorem froz_ofD {w : World} {b : Nat} {x : Value} {e : TypeId} (h : w.heap[b]? = some (.cells #[x] e (0, 0))) : w.frozen? ⟨b, 0, none⟩ = false := by simp [World.frozen?, h]
def Rd_Dag (w : World) (v : Value) (f : List (List Int)) : Prop := ∃ vc, v = .agg #[vc] ∧ RdSS w vc f
def I64_Dag (f : List (List Int)) : Prop := I64_IntSS f
def Own_Dag (w : World) (lo hi : Nat) (v : Value) (f : List (List Int)) : Prop := ∃ vc, v = .agg #[vc] ∧ OwnSS w lo hi 44 3 vc f
def Bd_Dag (f : List (List Int)) : Prop := Bd_IntSS f
def len_Dag (f : List (List Int)) : Nat := len_IntSS f
def sz_Dag (f : List (List Int)) (left : Int) : Int := szII f left
def Mk_Dag (w : World) (v : Value) (f : List (List Int)) (k0 : Int) : Prop := ∃ vc, v = .agg #[vc] ∧ RdSS w vc (seqII k0 (lens f))
section
variable {w w' : World} {lo hi : Nat} {v : Value} {f : List (List Int)} {k0 : Int}
theorem Rd_Dag.ext (h : Rd_Dag w v f) (he : Ext w w') : Rd_Dag w' v f := by
  obtain ⟨vc, h1, h2⟩ := h
  exact ⟨vc, h1, h2.ext he⟩
theorem Rd_Dag.form (h : Rd_Dag w v f) : ∃ A c, v = .agg #[.slice A f.length c] := by
  obtain ⟨vc, rfl, h2⟩ := h
  obtain ⟨A, c, rfl, _⟩ := h2.form
  exact ⟨A, c, rfl⟩
theorem Own_Dag.ext (h : Own_Dag w lo hi v f) (he : Ext w w') : Own_Dag w' lo hi v f := by
  obtain ⟨vc, h1, h2⟩ := h
  exact ⟨vc, h1, h2.ext he⟩
theorem Own_Dag.rd (h : Own_Dag w lo hi v f) : Rd_Dag w v f := by
  obtain ⟨vc, h1, h2⟩ := h
  exact ⟨vc, h1, h2.rd⟩
theorem Own_Dag.touch {lo' hi' : Nat} (h : Own_Dag w lo hi v f) (ht : Touch lo' hi' w w') (hd : hi ≤ lo' ∨ hi' ≤ lo) : Own_Dag w' lo hi v f := by
  obtain ⟨vc, h1, h2⟩ := h
  exact ⟨vc, h1, h2.touch ht hd⟩
theorem Own_Dag.form (h : Own_Dag w lo hi v f) : ∃ A c, v = .agg #[.slice A f.length c] ∧ Hid (Own_Dag w lo hi (.agg #[.slice A f.length c]) f) := by
  have h' := h
  obtain ⟨vc, rfl, h2⟩ := h'
  obtain ⟨A, c, rfl, _⟩ := h2.form
  exact ⟨A, c, rfl, hd h⟩
theorem Mk_Dag.ext (h : Mk_Dag w v f k0) (he : Ext w w') : Mk_Dag w' v f k0 := by
  obtain ⟨vc, h1, h2⟩ := h
  exact ⟨vc, h1, h2.ext he⟩
theorem sz_Dag_bd (f : List (List Int)) (left : Int) (h : left ≤ 1048576) : -1 ≤ sz_Dag f left ∧ sz_Dag f left ≤ 1048576 := szII_bd _ _ h
theorem sz_Dag_ok {f : List (List Int)} {left : Int} (h : ¬ sz_Dag f left < 0) (hl : left ≤ 1048576) : Bd_Dag f := sz_IntSS_ok h hl
theorem len_Dag_bd {f : List (List Int)} (h : Bd_Dag f) : len_Dag f ≤ 100000000 := len_IntSS_bd h
end
set_option maxHeartbeats 800000 in
theorem u_sz_Dag (f : List (List Int)) (v : Value) (left : Int) (w : World) (h : Rd_Dag w v f) (h2 : 0 ≤ left) (h3 : left ≤ 1048576) : Calls Try.prog 7 #[v, .int .i64 left] w (RetX w (.int .i64 (sz_Dag f left))) := by
  obtain ⟨vc, rfl, hC⟩ := h
  have hbd := szII_bd f left h3
  unfold sz_Dag
  have HC := hd (RdSS.ext hC (Ext.new w (.cells #[vc] 24)))
  have c := l_szIntSS f vc left (w.alloc (.cells #[vc] 24)) HC.out h2 h3
  generalize szII f left = z at *
  have C := hd c
  clear c
  clear hC
  go_enter Try.func7, Try.ntmps7
  by_cases h0 : z < 0
  · obtain rfl : z = -1 := by omega
    go_wp2_with fail
    refine (C.out).mono ?_
    rintro e w1 ⟨rfl, rfl⟩
    go_wp2
    go_ret
    exact RetX.mk rfl (Ext.new _ _)
  · go_wp2_with fail
    refine (C.out).mono ?_
    rintro e w1 ⟨rfl, rfl⟩
    go_wp2
    go_ret
    exact RetX.mk rfl (Ext.new _ _)
set_option maxHeartbeats 800000 in
theorem u_to_Dag (f : List (List Int)) (v : Value) (w : World) (h : Rd_Dag w v f) (b : Bd_Dag f) : Calls Try.prog 9 #[v] w (fun e w' => ∃ u, e = .returned u ∧ Own_Dag w' w.heap.size w'.heap.size u f ∧ Ext w w') := by
  obtain ⟨vc, rfl, hC⟩ := h
  have HC := hd hC
  clear hC
  go_enter Try.func9, Try.ntmps9
  go_wp2_with fail
  refine (u_to_IntSS f _ _ (HC.out.ext (by exact ((Ext.new _ _).alloc _).alloc _)) b).mono ?_
  rintro e w1 ⟨u1, rfl, hu1, hx1⟩
  have X1 : Hid (Ext w w1) := hd (Ext.trans (by exact ((Ext.new _ _).alloc _).alloc _) hx1)
  have B1 := hd (hx1.heap (g := w.heap.size + 1) (o := .cells #[.slice none 0 0] 28) (blk_old (blk_new _ (by simp))))
  have B2 := hd (hx1.heap (g := w.heap.size + 1 + 1) (o := .cells #[.slice none 0 0] 28) (blk_new _ (by simp)))
  have hs1 : w.heap.size + 1 + 1 < w1.heap.size := by have := hx1.size; simp at this; omega
  have O1 : Hid (OwnSS w1 (w.heap.size + 1 + 1 + 1) w1.heap.size 44 3 u1 f) := hd (by simpa [Own_IntSS] using hu1)
  obtain ⟨A1, n1, rfl, _⟩ := hu1.form
  clear hu1 hx1
  have c0 := cell_ofD B2.out
  have f0 := froz_ofD B2.out
  have d0 := cell_ofD B1.out
  have g0 := froz_ofD B1.out
  go_wp2
  have HT : Hid (∀ u0 u1, Touch (w.heap.size + 1) (w.heap.size + 1 + 1 + 1) w1 ((w1.setCell ⟨w.heap.size + 1 + 1, 0, none⟩ u0).setCell ⟨w.heap.size + 1, 0, none⟩ u1)) := hd fun u0 u1 =>
    ((Touch.refl _ _ _).setCell (by simp) (by simp) _).setCell (by simp) (by simp) _
  refine bodyPost_ret (v := .agg #[.slice A1 f.length n1]) (by simp [results, Try.results9, go_sem, d0]) rfl ⟨_, rfl, ⟨_, rfl, ?_⟩, (X1.out.setCell (by simp; omega) _).setCell (by simp) _⟩
  exact ((O1.out.touch (HT.out _ _) (.inr (by omega))).lo_le (by omega)).hi_le (by simp)
set_option maxHeartbeats 800000 in
theorem u_eq_Dag (f : List (List Int)) (v v' : Value) (w : World) (h : Rd_Dag w v f) (h' : Rd_Dag w v' f) (b : Bd_Dag f) : Calls Try.prog 11 #[v, v'] w (RetX w (.bool true)) := by
  obtain ⟨vc, rfl, hC⟩ := h
  obtain ⟨vc', rfl, hC'⟩ := h'
  have HC := hd hC
  have HC' := hd hC'
  clear hC hC'
  go_enter Try.func11, Try.ntmps11
  have X0 : Hid (Ext w ((w.alloc (.cells #[vc] 28)).alloc (.cells #[vc'] 28))) := hd ((Ext.new _ _).alloc _)
  go_wp2_with fail
  refine (u_eq_IntSS f _ _ _ (HC.out.ext X0.out) (HC'.out.ext X0.out) b).mono ?_
  rintro e w1 ⟨rfl, hx1⟩
  have X1 := hd (X0.out.trans hx1)
  clear X0 hx1
  go_wp2
  go_ret
  exact RetX.mk rfl X1.out
set_option maxHeartbeats 800000 in
theorem u_mark_Dag (f : List (List Int)) (v : Value) (k0 : Int) (w : World) (lo hi : Nat) (h : Own_Dag w lo hi v f) (hh : hi ≤ w.heap.size) (b : Bd_Dag f) (hk0 : 0 ≤ k0) (hk1 : k0 ≤ 1000000000) :
    Calls Try.prog 19 #[v, .int .i64 k0] w fun e w' => e = .returned (.int .i64 (k0 + len_Dag f)) ∧ Mk_Dag w' v f k0 ∧ Touch lo hi w w' := by
  obtain ⟨vc, rfl, hC⟩ := h
  have HC := hd (OwnSS.ext hC (Ext.new w (.cells #[vc] 28)))
  clear hC
  go_enter Try.func19, Try.ntmps19
  go_wp2_with fail
  refine (u_mark_IntSS f _ k0 _ lo hi HC.out (by simp; omega) b hk0 hk1).mono ?_
  rintro e w1 ⟨rfl, hm, ht⟩
  have HM := hd hm
  have HT : Hid (Touch lo hi w w1) := hd ((Touch.of_ext (Ext.new _ _)).trans ht)
  clear hm ht
  go_wp2
  go_ret
  exact ⟨rfl, ⟨vc, rfl, HM.out⟩, HT.out⟩
end Go.Proofs.Ytapgpjhogdmjbaa
