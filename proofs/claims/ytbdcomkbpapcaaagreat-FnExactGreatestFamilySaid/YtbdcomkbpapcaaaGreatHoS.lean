import Derived.Test.YtbdcomkbpapcaaaGreatHoX
/-
  Functions of package slices at lists of lists of numbers that take a function. Conditions: list lengths up to 2^30.
-/

namespace Go.Proofs.YtbdcomkbpapcaaaGreat
open Go.RowKit
/-- The function value of g with captured values cs answers p of a list, in w and whatever extends w. -/
def AnsS (g : FuncId) (cs : Array Value) (p : List Int → Bool) (xss : List (List Int)) (w : World) : Prop := ∀ xs ∈ xss, ∀ (u : Value) (w' : World), Ext w w' → RdI w' u xs → Calls Tryz.prog g (#[u] ++ cs) w' (RetX w' (.bool (p xs)))
def findL (p : List Int → Bool) : List (List Int) → Int → Int
  | [], _ => -1
  | x :: r, k => if p x then k else findL p r (k + 1)
def anyL (p : List Int → Bool) : List (List Int) → Bool
  | [] => false
  | x :: r => if p x then true else anyL p r
theorem anyL_eq (p : List Int → Bool) (xs : List (List Int)) : anyL p xs = xs.any p := by
  induction xs with
  | nil => rfl
  | cons x r ih => unfold anyL; cases h : p x <;> simp [h, ih]
theorem findL_any (p : List Int → Bool) (xs : List (List Int)) : ∀ k : Int, 0 ≤ k → decide (0 ≤ findL p xs k) = anyL p xs := by
  induction xs with
  | nil => intro k _; rfl
  | cons x r ih =>
    intro k hk
    unfold findL anyL
    cases p x
    · simpa using ih (k + 1) (by omega)
    · simpa using hk
set_option maxHeartbeats 800000 in
theorem slices_IndexFuncS (xs : List (List Int)) (v : Value) (g : FuncId) (cs : Array Value) (p : List Int → Bool) (w : World) (h : RdSS w v xs) (hl : xs.length ≤ 1073741824) (hg : Enters g) (hp : Hid (AnsS g cs p xs w)) :
    Calls Tryz.prog 59 #[v, .func (.func g) #[] cs] w (RetX w (.int .i64 (findL p xs 0))) := by
  obtain ⟨A, c, rfl, h1, h2, ha⟩ := h.form
  clear h
  go_enter Tryz.func59, Tryz.ntmps59
  go_wp2
  go_loopw [8] (fun i wr => ∃ k : Nat, k ≤ xs.length ∧ i = .int .i64 k ∧ Hid (findL p xs 0 = findL p (xs.drop k) k) ∧ Ext w wr) (fun i _ => xs.length - (intOf i).toNat)
  case atStart => exact ⟨0, by omega, rfl, hd rfl, Ext.refl _⟩
  case round =>
    obtain ⟨k, hk, rfl, HR, hx⟩ := hrel
    have HX := hd hx
    clear hx
    by_cases hlt : k < xs.length
    · obtain ⟨a, u, rfl, hc0, hr0⟩ := RdSS.at_ ha hlt
      have hc := HX.out.cell hc0
      have HRD := hd (hr0.ext HX.out)
      clear hc0 hr0
      have hdc : xs.drop k = xs[k] :: xs.drop (k + 1) := List.drop_eq_getElem_cons hlt
      rw [hdc] at HR
      have hm := hd (List.getElem_mem hlt)
      clear hdc
      generalize xs[k] = y at *
      unfold Enters at hg
      obtain ⟨b, hb⟩ : ∃ b, p y = b := ⟨_, rfl⟩
      have HB := hd hb
      clear hb
      go_wp2_with fail
      refine (hp.out y hm.out u _ HX.out HRD.out).mono ?_
      rintro e w1 ⟨rfl, hx1⟩
      have HX1 := hd (HX.out.trans hx1)
      clear hx1 hc
      rw [HB.out]
      cases b
      · go_wp2
        go_roundw
        case rel => exact ⟨k + 1, by omega, by go_num, hd (by rw [HR.out, findL, HB.out]; rfl), HX1.out⟩
        case measure => simp [intOf]; omega
      · go_wp2
        go_ret
        exact RetX.mk (by rw [HR.out, findL, HB.out]; rfl) HX1.out
    · go_wp2
      go_ret
      exact RetX.mk (by rw [HR.out, List.drop_eq_nil_of_le (by omega)]; rfl) HX.out
theorem slices_ContainsFuncS (xs : List (List Int)) (v : Value) (g : FuncId) (cs : Array Value) (p : List Int → Bool) (w : World) (h : RdSS w v xs) (hl : xs.length ≤ 1073741824) (hg : Enters g) (hp : Hid (AnsS g cs p xs w)) :
    Calls Tryz.prog 69 #[v, .func (.func g) #[] cs] w (RetX w (.bool (anyL p xs))) := by
  have HB := hd (findL_any p xs 0 (Int.le_refl _))
  have HA := hd h
  clear h
  go_enter Tryz.func69, Tryz.ntmps69
  go_wp2_with fail
  refine (slices_IndexFuncS xs v g cs p _ HA.out hl hg hp).mono ?_
  rintro e w1 ⟨rfl, hx⟩
  go_wp2
  go_ret
  exact RetX.mk (by rw [← HB.out]; rfl) hx
end Go.Proofs.YtbdcomkbpapcaaaGreat
