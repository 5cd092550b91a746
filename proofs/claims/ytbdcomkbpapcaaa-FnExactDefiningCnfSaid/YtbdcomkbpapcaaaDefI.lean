import Derived.Test.YtbdcomkbpapcaaaDefT
/-
  DefiningCnf, the program's side: the raw lists of a part, and the clause of one. Conditions: numbers up to 500.
-/

namespace Go.Proofs.Ytbdcomkbpapcaaa
open Go.RowKit Go.Sort Seed
/-- Raw lists that can be read. -/
def RetRd (w : World) (xss : List (List Int)) : Ending → World → Prop := fun e w' => ∃ u, e = .returned u ∧ (∀ W : World, (∀ b, w.heap.size ≤ b → b < w'.heap.size → W.heap[b]? = w'.heap[b]?) → RdSS W u xss) ∧ Ext w w'
set_option maxRecDepth 100000 in
theorem i_def_zero (v x z : Int) (w : World) (hv : 1 ≤ v ∧ v ≤ 500) (hx : 0 ≤ x ∧ x ≤ 500) (hz : 0 ≤ z ∧ z ≤ 500) : Calls Try.prog 61 #[.int .u8 (opF (.leaf 48)).toNat, .int .i64 v, .int .i64 x, .int .i64 z] w (RetRd w (rawD (.leaf 48) v x z)) := by
  have HRW : Hid (rawD (.leaf 48) v x z = [[-v]]) := hd rfl
  have ho : ((opF (.leaf 48)).toNat : Int) = 48 := rfl
  generalize (opF (.leaf 48)).toNat = o at *
  have hw1 : IntKind.i64.wrap (-x) = -x := IntWalk.i64_in _ (by omega)
  have hw2 : IntKind.i64.wrap (-v) = -v := IntWalk.i64_in _ (by omega)
  have hw3 : IntKind.i64.wrap (-z) = -z := IntWalk.i64_in _ (by omega)
  rw [HRW.out]
  go_enter Try.func61, Try.ntmps61
  go_wp2
  go_ret
  exact ⟨_, rfl, fun W hW => (rdSS_1 (by rw [hW _ (by omega) (by simp <;> omega)]; repeat (first | exact blk_new _ (by simp) | refine blk_old ?_)) (rdI_litD (b := w.heap.size) (xs := [-v]) (by rw [hW _ (by omega) (by simp <;> omega)]; repeat (first | exact blk_new _ (by simp) | refine blk_old ?_)) (by simp))), by repeat (first | exact Ext.refl _ | refine Ext.alloc ?_ _)⟩
set_option maxRecDepth 100000 in
theorem i_def_one (v x z : Int) (w : World) (hv : 1 ≤ v ∧ v ≤ 500) (hx : 0 ≤ x ∧ x ≤ 500) (hz : 0 ≤ z ∧ z ≤ 500) : Calls Try.prog 61 #[.int .u8 (opF (.leaf 49)).toNat, .int .i64 v, .int .i64 x, .int .i64 z] w (RetRd w (rawD (.leaf 49) v x z)) := by
  have HRW : Hid (rawD (.leaf 49) v x z = [[v]]) := hd rfl
  have ho : ((opF (.leaf 49)).toNat : Int) = 49 := rfl
  generalize (opF (.leaf 49)).toNat = o at *
  have hw1 : IntKind.i64.wrap (-x) = -x := IntWalk.i64_in _ (by omega)
  have hw2 : IntKind.i64.wrap (-v) = -v := IntWalk.i64_in _ (by omega)
  have hw3 : IntKind.i64.wrap (-z) = -z := IntWalk.i64_in _ (by omega)
  rw [HRW.out]
  go_enter Try.func61, Try.ntmps61
  go_wp2
  go_ret
  exact ⟨_, rfl, fun W hW => (rdSS_1 (by rw [hW _ (by omega) (by simp <;> omega)]; repeat (first | exact blk_new _ (by simp) | refine blk_old ?_)) (rdI_litD (b := w.heap.size) (xs := [v]) (by rw [hW _ (by omega) (by simp <;> omega)]; repeat (first | exact blk_new _ (by simp) | refine blk_old ?_)) (by simp))), by repeat (first | exact Ext.refl _ | refine Ext.alloc ?_ _)⟩
set_option maxRecDepth 100000 in
theorem i_def_neg (a : Fm) (v x z : Int) (w : World) (hv : 1 ≤ v ∧ v ≤ 500) (hx : 0 ≤ x ∧ x ≤ 500) (hz : 0 ≤ z ∧ z ≤ 500) : Calls Try.prog 61 #[.int .u8 (opF (.neg a)).toNat, .int .i64 v, .int .i64 x, .int .i64 z] w (RetRd w (rawD (.neg a) v x z)) := by
  have HRW : Hid (rawD (.neg a) v x z = [[x, v], [-x, -v]]) := hd rfl
  have ho : ((opF (.neg a)).toNat : Int) = 126 := rfl
  generalize (opF (.neg a)).toNat = o at *
  have hw1 : IntKind.i64.wrap (-x) = -x := IntWalk.i64_in _ (by omega)
  have hw2 : IntKind.i64.wrap (-v) = -v := IntWalk.i64_in _ (by omega)
  have hw3 : IntKind.i64.wrap (-z) = -z := IntWalk.i64_in _ (by omega)
  rw [HRW.out]
  go_enter Try.func61, Try.ntmps61
  go_wp2
  go_ret
  exact ⟨_, rfl, fun W hW => (rdSS_2 (by rw [hW _ (by omega) (by simp <;> omega)]; repeat (first | exact blk_new _ (by simp) | refine blk_old ?_)) (rdI_litD (b := w.heap.size) (xs := [x, v]) (by rw [hW _ (by omega) (by simp <;> omega)]; repeat (first | exact blk_new _ (by simp) | refine blk_old ?_)) (by simp)) (rdI_litD (b := w.heap.size + 1) (xs := [-x, -v]) (by rw [hW _ (by omega) (by simp <;> omega)]; repeat (first | exact blk_new _ (by simp) | refine blk_old ?_)) (by simp))), by repeat (first | exact Ext.refl _ | refine Ext.alloc ?_ _)⟩
set_option maxRecDepth 100000 in
theorem i_def_and (a b : Fm) (v x z : Int) (w : World) (hv : 1 ≤ v ∧ v ≤ 500) (hx : 0 ≤ x ∧ x ≤ 500) (hz : 0 ≤ z ∧ z ≤ 500) : Calls Try.prog 61 #[.int .u8 (opF (.bin 38 a b)).toNat, .int .i64 v, .int .i64 x, .int .i64 z] w (RetRd w (rawD (.bin 38 a b) v x z)) := by
  have HRW : Hid (rawD (.bin 38 a b) v x z = [[x, -v], [z, -v], [-x, -z, v]]) := hd rfl
  have ho : ((opF (.bin 38 a b)).toNat : Int) = 38 := rfl
  generalize (opF (.bin 38 a b)).toNat = o at *
  have hw1 : IntKind.i64.wrap (-x) = -x := IntWalk.i64_in _ (by omega)
  have hw2 : IntKind.i64.wrap (-v) = -v := IntWalk.i64_in _ (by omega)
  have hw3 : IntKind.i64.wrap (-z) = -z := IntWalk.i64_in _ (by omega)
  rw [HRW.out]
  go_enter Try.func61, Try.ntmps61
  go_wp2
  go_ret
  exact ⟨_, rfl, fun W hW => (rdSS_3 (by rw [hW _ (by omega) (by simp <;> omega)]; repeat (first | exact blk_new _ (by simp) | refine blk_old ?_)) (rdI_litD (b := w.heap.size) (xs := [x, -v]) (by rw [hW _ (by omega) (by simp <;> omega)]; repeat (first | exact blk_new _ (by simp) | refine blk_old ?_)) (by simp)) (rdI_litD (b := w.heap.size + 1) (xs := [z, -v]) (by rw [hW _ (by omega) (by simp <;> omega)]; repeat (first | exact blk_new _ (by simp) | refine blk_old ?_)) (by simp)) (rdI_litD (b := w.heap.size + 1 + 1) (xs := [-x, -z, v]) (by rw [hW _ (by omega) (by simp <;> omega)]; repeat (first | exact blk_new _ (by simp) | refine blk_old ?_)) (by simp))), by repeat (first | exact Ext.refl _ | refine Ext.alloc ?_ _)⟩
set_option maxRecDepth 100000 in
theorem i_def_or (a b : Fm) (v x z : Int) (w : World) (hv : 1 ≤ v ∧ v ≤ 500) (hx : 0 ≤ x ∧ x ≤ 500) (hz : 0 ≤ z ∧ z ≤ 500) : Calls Try.prog 61 #[.int .u8 (opF (.bin 124 a b)).toNat, .int .i64 v, .int .i64 x, .int .i64 z] w (RetRd w (rawD (.bin 124 a b) v x z)) := by
  have HRW : Hid (rawD (.bin 124 a b) v x z = [[-x, v], [-z, v], [x, z, -v]]) := hd rfl
  have ho : ((opF (.bin 124 a b)).toNat : Int) = 124 := rfl
  generalize (opF (.bin 124 a b)).toNat = o at *
  have hw1 : IntKind.i64.wrap (-x) = -x := IntWalk.i64_in _ (by omega)
  have hw2 : IntKind.i64.wrap (-v) = -v := IntWalk.i64_in _ (by omega)
  have hw3 : IntKind.i64.wrap (-z) = -z := IntWalk.i64_in _ (by omega)
  rw [HRW.out]
  go_enter Try.func61, Try.ntmps61
  go_wp2
  go_ret
  exact ⟨_, rfl, fun W hW => (rdSS_3 (by rw [hW _ (by omega) (by simp <;> omega)]; repeat (first | exact blk_new _ (by simp) | refine blk_old ?_)) (rdI_litD (b := w.heap.size) (xs := [-x, v]) (by rw [hW _ (by omega) (by simp <;> omega)]; repeat (first | exact blk_new _ (by simp) | refine blk_old ?_)) (by simp)) (rdI_litD (b := w.heap.size + 1) (xs := [-z, v]) (by rw [hW _ (by omega) (by simp <;> omega)]; repeat (first | exact blk_new _ (by simp) | refine blk_old ?_)) (by simp)) (rdI_litD (b := w.heap.size + 1 + 1) (xs := [x, z, -v]) (by rw [hW _ (by omega) (by simp <;> omega)]; repeat (first | exact blk_new _ (by simp) | refine blk_old ?_)) (by simp))), by repeat (first | exact Ext.refl _ | refine Ext.alloc ?_ _)⟩
set_option maxRecDepth 100000 in
theorem i_def_imp (a b : Fm) (v x z : Int) (w : World) (hv : 1 ≤ v ∧ v ≤ 500) (hx : 0 ≤ x ∧ x ≤ 500) (hz : 0 ≤ z ∧ z ≤ 500) : Calls Try.prog 61 #[.int .u8 (opF (.bin 62 a b)).toNat, .int .i64 v, .int .i64 x, .int .i64 z] w (RetRd w (rawD (.bin 62 a b) v x z)) := by
  have HRW : Hid (rawD (.bin 62 a b) v x z = [[x, v], [-z, v], [-x, z, -v]]) := hd rfl
  have ho : ((opF (.bin 62 a b)).toNat : Int) = 62 := rfl
  generalize (opF (.bin 62 a b)).toNat = o at *
  have hw1 : IntKind.i64.wrap (-x) = -x := IntWalk.i64_in _ (by omega)
  have hw2 : IntKind.i64.wrap (-v) = -v := IntWalk.i64_in _ (by omega)
  have hw3 : IntKind.i64.wrap (-z) = -z := IntWalk.i64_in _ (by omega)
  rw [HRW.out]
  go_enter Try.func61, Try.ntmps61
  go_wp2
  go_ret
  exact ⟨_, rfl, fun W hW => (rdSS_3 (by rw [hW _ (by omega) (by simp <;> omega)]; repeat (first | exact blk_new _ (by simp) | refine blk_old ?_)) (rdI_litD (b := w.heap.size) (xs := [x, v]) (by rw [hW _ (by omega) (by simp <;> omega)]; repeat (first | exact blk_new _ (by simp) | refine blk_old ?_)) (by simp)) (rdI_litD (b := w.heap.size + 1) (xs := [-z, v]) (by rw [hW _ (by omega) (by simp <;> omega)]; repeat (first | exact blk_new _ (by simp) | refine blk_old ?_)) (by simp)) (rdI_litD (b := w.heap.size + 1 + 1) (xs := [-x, z, -v]) (by rw [hW _ (by omega) (by simp <;> omega)]; repeat (first | exact blk_new _ (by simp) | refine blk_old ?_)) (by simp))), by repeat (first | exact Ext.refl _ | refine Ext.alloc ?_ _)⟩
theorem i_defined (y : Fm) (v x z : Int) (w : World) (hw : WfF y = true) (hnl : letT (txt y) = false) (hv : 1 ≤ v ∧ v ≤ 500) (hx : 0 ≤ x ∧ x ≤ 500) (hz : 0 ≤ z ∧ z ≤ 500) : Calls Try.prog 61 #[.int .u8 (opF y).toNat, .int .i64 v, .int .i64 x, .int .i64 z] w (RetRd w (rawD y v x z)) := by
  cases y with
  | leaf c =>
    have hc : c = 48 ∨ c = 49 := by
      have h1 : isLf c = true := hw
      have h2 : letB c = false := hnl
      unfold isLf at h1
      unfold letB at h2
      rw [h2, Bool.or_false, Bool.or_eq_true, beq_iff_eq, beq_iff_eq] at h1
      exact h1
    rcases hc with rfl | rfl
    · exact i_def_zero v x z w hv hx hz
    · exact i_def_one v x z w hv hx hz
  | neg a => exact i_def_neg a v x z w hv hx hz
  | bin o a b =>
    have ho : o = 38 ∨ o = 124 ∨ o = 62 := by
      have h1 : (isOp o && (WfF a && WfF b)) = true := hw
      rw [Bool.and_eq_true] at h1
      have h2 := h1.1
      unfold isOp at h2
      simp only [Bool.or_eq_true, beq_iff_eq] at h2
      rcases h2 with (h | h) | h
      · exact .inl h
      · exact .inr (.inl h)
      · exact .inr (.inr h)
    rcases ho with rfl | rfl | rfl
    · exact i_def_and a b v x z w hv hx hz
    · exact i_def_or a b v x z w hv hx hz
    · exact i_def_imp a b v x z w hv hx hz
/-- A clause of the call's own, or none, as the reference has it. -/
def RetCo (w : World) : Option (List Int) → Ending → World → Prop
  | some c => fun e w' => ∃ u, e = .returned (.tuple #[u, .bool true]) ∧ OwnI w' w.heap.size 3 u c ∧ Ext w w'
  | none => fun e w' => e = .returned (.tuple #[.slice none 0 0, .bool false]) ∧ Ext w w'
theorem i_clauseO (xs : List Int) (v : Value) (w : World) (h : RdI w v xs) (hl : xs.length ≤ 1048576) (hok : ClOk xs) : Calls Try.prog 62 #[v] w (RetCo w (clO xs)) := by
  obtain ⟨zs, ys, h1, h2, h3, h4, h5⟩ := hok
  refine (i_clauseS xs zs ys v w h hl (hd h1) (hd h2) (by omega) (hd h4)).mono ?_
  cases hc : clO xs with
  | none =>
    rw [hc] at h5
    rw [show negAdj ys = true from h5]
    exact fun e w' h => h
  | some c =>
    rw [hc] at h5
    rw [h5.1, ← h5.2]
    exact fun e w' h => h
end Go.Proofs.Ytbdcomkbpapcaaa
