/-
  Functions of package slices that take a function whose calls may make memory of their own. Conditions: list lengths up to 2^30.
-/
import Derived.Test.YtkcljofjkmhopaaHo2
namespace Go.Proofs.Ytkcljofjkmhopaa
open Go.RowKit
/-- The function value of g with captured values cs answers p, in w and whatever extends w. -/
def AnsX (g : FuncId) (cs : Array Value) (p : Int → Bool) (xs : List Int) (w : World) : Prop := ∀ x ∈ xs, ∀ (w' : World), Ext w w' → Calls Try.prog g (#[.int .i64 x] ++ cs) w' (RetX w' (.bool (p x)))
set_option maxHeartbeats 800000 in
theorem slices_IndexFuncX (xs : List Int) (v : Value) (g : FuncId) (cs : Array Value) (p : Int → Bool) (w : World) (h : RdI w v xs) (hl : xs.length ≤ 1073741824) (hg : Enters g) (hp : Hid (AnsX g cs p xs w)) :
    Calls Try.prog 119 #[v, .func (.func g) #[] cs] w (RetX w (.int .i64 (findI p xs 0))) := by
  obtain ⟨A, c, rfl, h1, h2, ha⟩ := h.form
  clear h
  go_enter Try.func119, Try.ntmps119
  go_wp2
  go_loopw [8] (fun i wr => ∃ k : Nat, k ≤ xs.length ∧ i = .int .i64 k ∧ Hid (findI p xs 0 = findI p (xs.drop k) k) ∧ Ext w wr) (fun i _ => xs.length - (intOf i).toNat)
  case atStart => exact ⟨0, by omega, rfl, hd rfl, Ext.refl _⟩
  case round =>
    obtain ⟨k, hk, rfl, HR, hx⟩ := hrel
    have HX := hd hx
    clear hx
    by_cases hlt : k < xs.length
    · obtain ⟨a, rfl, hc0⟩ := RdI.at_ ha hlt
      have hc := HX.out.cell hc0
      clear hc0
      rw [drop_cons hlt] at HR
      have hm := hd (List.getElem_mem hlt)
      generalize xs[k] = y at *
      unfold Enters at hg
      obtain ⟨b, hb⟩ : ∃ b, p y = b := ⟨_, rfl⟩
      have HB := hd hb
      clear hb
      go_wp2_with fail
      refine (hp.out y hm.out _ HX.out).mono ?_
      rintro e w1 ⟨rfl, hx1⟩
      have HX1 := hd (HX.out.trans hx1)
      clear hx1 hc
      rw [HB.out]
      cases b
      · go_wp2
        go_roundw
        case rel => exact ⟨k + 1, by omega, by go_num, hd (by rw [HR.out, findI, HB.out]; rfl), HX1.out⟩
        case measure => simp [intOf]; omega
      · go_wp2
        go_ret
        exact RetX.mk (by rw [HR.out, findI, HB.out]; rfl) HX1.out
    · go_wp2
      go_ret
      exact RetX.mk (by rw [HR.out, List.drop_eq_nil_of_le (by omega)]; rfl) HX.out
theorem slices_ContainsFuncX (xs : List Int) (v : Value) (g : FuncId) (cs : Array Value) (p : Int → Bool) (w : World) (h : RdI w v xs) (hl : xs.length ≤ 1073741824) (hg : Enters g) (hp : Hid (AnsX g cs p xs w)) :
    Calls Try.prog 90 #[v, .func (.func g) #[] cs] w (RetX w (.bool (anyI p xs))) := by
  have HB := hd (findI_any p xs 0 (Int.le_refl _))
  have HA := hd h
  clear h
  go_enter Try.func90, Try.ntmps90
  go_wp2_with fail
  refine (slices_IndexFuncX xs v g cs p _ HA.out hl hg hp).mono ?_
  rintro e w1 ⟨rfl, hx⟩
  go_wp2
  go_ret
  exact RetX.mk (by rw [← HB.out]; rfl) hx
theorem grown_ext {w w' : World} (h : Ext w w') (row : Option Nat) : w.grownBy w' row := ⟨h.os, h.tape, h.output, h.size, fun k hk _ => h.block k hk⟩
end Go.Proofs.Ytkcljofjkmhopaa
