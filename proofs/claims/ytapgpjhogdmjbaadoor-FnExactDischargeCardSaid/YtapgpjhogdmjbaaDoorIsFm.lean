/-
  IsFormula, and IndexFunc and ContainsFunc over strings. Condition: sizes up to 2^20.
-/
import Derived.Test.YtapgpjhogdmjbaaDoorFmJ
import Derived.Test.YtapgpjhogdmjbaaDoorFmS
import Derived.Test.YtapgpjhogdmjbaaDoorStrS
import Derived.Test.YtapgpjhogdmjbaaDoorHo
namespace Go.Proofs.YtapgpjhogdmjbaaDoor
open Go.RowKit Go.Sort
theorem i_IsFormula (s : ByteArray) (w : World) : Calls Tryd.prog 46 #[.string s] w (RetX w (.bool (isF s))) := by
  cases hg : goodF s with
  | none =>
    have HG := hd hg
    have HF : Hid (isF s = false) := hd (by unfold isF; rw [hg]; rfl)
    clear hg
    go_enter Tryd.func46, Tryd.ntmps46
    go_wp2_with fail
    refine (rp_no (i_parse s _) HG).mono ?_
    rintro e w1 ⟨rfl, hx⟩
    go_wp2
    go_ret
    exact RetX.mk (by rw [HF.out]; rfl) hx
  | some f =>
    have HG := hd hg
    have HF : Hid (isF s = true) := hd (by unfold isF; rw [hg]; rfl)
    clear hg
    go_enter Tryd.func46, Tryd.ntmps46
    go_wp2_with fail
    refine (rp_yes (i_parse s _) HG).mono ?_
    rintro e w1 ⟨v, rfl, hv, hx⟩
    go_wp2
    go_ret
    exact RetX.mk (by rw [HF.out]; rfl) hx
/-- The function value of g with captured values cs answers p of a string, in w and whatever extends w. -/
def AnsF (g : FuncId) (cs : Array Value) (p : List UInt8 → Bool) (xs : List (List UInt8)) (w : World) : Prop := ∀ x ∈ xs, ∀ (w' : World), Ext w w' → Calls Tryd.prog g (#[.string ⟨x.toArray⟩] ++ cs) w' (RetX w' (.bool (p x)))
def findF (p : List UInt8 → Bool) : List (List UInt8) → Int → Int
  | [], _ => -1
  | x :: r, k => if p x then k else findF p r (k + 1)
theorem findF_any (p : List UInt8 → Bool) (xs : List (List UInt8)) : ∀ k : Int, 0 ≤ k → decide (0 ≤ findF p xs k) = xs.any p := by
  induction xs with
  | nil => intro k _; rfl
  | cons x r ih =>
    intro k hk
    unfold findF
    rw [List.any_cons]
    cases p x
    · simpa using ih (k + 1) (by omega)
    · simpa using hk
set_option maxHeartbeats 800000 in
theorem slices_IndexFuncF (xs : List (List UInt8)) (v : Value) (g : FuncId) (cs : Array Value) (p : List UInt8 → Bool) (w : World) (h : Rd_StringS w v xs) (hl : xs.length ≤ 1073741824) (hg : Enters g) (hp : Hid (AnsF g cs p xs w)) :
    Calls Tryd.prog 55 #[v, .func (.func g) #[] cs] w (RetX w (.int .i64 (findF p xs 0))) := by
  obtain ⟨A, c, rfl, h1, h2, ha⟩ := h.form
  clear h
  go_enter Tryd.func55, Tryd.ntmps55
  go_wp2
  go_loopw [8] (fun i wr => ∃ k : Nat, k ≤ xs.length ∧ i = .int .i64 k ∧ Hid (findF p xs 0 = findF p (xs.drop k) k) ∧ Ext w wr) (fun i _ => xs.length - (intOf i).toNat)
  case atStart => exact ⟨0, by omega, rfl, hd rfl, Ext.refl _⟩
  case round =>
    obtain ⟨k, hk, rfl, HR, hx⟩ := hrel
    have HX := hd hx
    clear hx
    by_cases hlt : k < xs.length
    · obtain ⟨a, rfl, hc0⟩ := Rd_StringS.at_ ha hlt
      have hc := HX.out.cell hc0
      clear hc0
      have hdc : xs.drop k = xs[k] :: xs.drop (k + 1) := List.drop_eq_getElem_cons hlt
      rw [hdc] at HR
      have hm := hd (List.getElem_mem hlt)
      clear hdc
      generalize xs[k] = y at *
      unfold Enters at hg
      obtain ⟨b, hb⟩ : ∃ b, p y = b := ⟨_, rfl⟩
      have HB := hd hb
      clear hb
      go_wp2_with fail
      refine (hp.out y hm.out _ HX.out).mono ?_
      rintro e w1 ⟨rfl, hx1⟩
      have HX1 := hd (HX.out.trans hx1)
      clear hx1 hc
      rw [HB.out]
      cases b
      · go_wp2
        go_roundw
        case rel => exact ⟨k + 1, by omega, by go_num, hd (by rw [HR.out, findF, HB.out]; rfl), HX1.out⟩
        case measure => simp [intOf]; omega
      · go_wp2
        go_ret
        exact RetX.mk (by rw [HR.out, findF, HB.out]; rfl) HX1.out
    · go_wp2
      go_ret
      exact RetX.mk (by rw [HR.out, List.drop_eq_nil_of_le (by omega)]; rfl) HX.out
theorem slices_ContainsFuncF (xs : List (List UInt8)) (v : Value) (g : FuncId) (cs : Array Value) (p : List UInt8 → Bool) (w : World) (h : Rd_StringS w v xs) (hl : xs.length ≤ 1073741824) (hg : Enters g) (hp : Hid (AnsF g cs p xs w)) :
    Calls Tryd.prog 44 #[v, .func (.func g) #[] cs] w (RetX w (.bool (xs.any p))) := by
  have HB := hd (findF_any p xs 0 (Int.le_refl _))
  have HA := hd h
  clear h
  go_enter Tryd.func44, Tryd.ntmps44
  go_wp2_with fail
  refine (slices_IndexFuncF xs v g cs p _ HA.out hl hg hp).mono ?_
  rintro e w1 ⟨rfl, hx⟩
  go_wp2
  go_ret
  exact RetX.mk (by rw [← HB.out]; rfl) hx
end Go.Proofs.YtapgpjhogdmjbaaDoor
