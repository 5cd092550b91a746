/-
  Functions of package slices that take a function: for every function value whose calls answer a given question and only draw. Conditions: list lengths up to 2^30.
-/
import Derived.Test.YtjeeffmpfdhppaaC1
namespace Go.Proofs.Ytjeeffmpfdhppaa
open Go.RowKit

/-- A call of function g enters it. -/
def Enters (g : FuncId) : Prop := ∀ (args : Array Value) (w : World), (callFunc g args).run Try.prog w = .ok (.enter g args) w
/-- The function value of g with captured values cs answers p, in w and whatever w has drawn. -/
def AnsQ (g : FuncId) (cs : Array Value) (p : Int → Bool) (xs : List Int) (w : World) : Prop := ∀ x ∈ xs, ∀ (n : Nat), Calls Try.prog g (#[.int .i64 x] ++ cs) (w.drewN n) (RetQ (w.drewN n) (.bool (p x)))
def findI (p : Int → Bool) : List Int → Int → Int
  | [], _ => -1
  | y :: r, k => if p y then k else findI p r (k + 1)
def anyI (p : Int → Bool) : List Int → Bool
  | [] => false
  | y :: r => if p y then true else anyI p r
theorem anyI_eq (p : Int → Bool) (xs : List Int) : anyI p xs = xs.any p := by
  induction xs with
  | nil => rfl
  | cons y r ih => unfold anyI; cases h : p y <;> simp [h, ih]
theorem findI_any (p : Int → Bool) (xs : List Int) : ∀ k : Int, 0 ≤ k → decide (0 ≤ findI p xs k) = anyI p xs := by
  induction xs with
  | nil => intro k _; rfl
  | cons y r ih =>
    intro k hk
    unfold findI anyI
    by_cases h : p y = true
    · rw [if_pos h, if_pos h]; simp [hk]
    · rw [if_neg h, if_neg h]; exact ih _ (by omega)
set_option maxHeartbeats 800000 in
theorem slices_IndexFunc (xs : List Int) (v : Value) (g : FuncId) (cs : Array Value) (p : Int → Bool) (w : World) (h : RdI w v xs) (hl : xs.length ≤ 1073741824) (hg : Enters g) (hp : Hid (AnsQ g cs p xs w)) :
    Calls Try.prog 151 #[v, .func (.func g) #[] cs] w (RetQ w (.int .i64 (findI p xs 0))) := by
  obtain ⟨A, c, rfl, h1, h2, ha⟩ := h.form
  clear h
  go_enter Try.func151, Try.ntmps151
  go_wp2
  go_loopw [8] (fun i wr => ∃ k n : Nat, k ≤ xs.length ∧ i = .int .i64 k ∧ Hid (findI p xs 0 = findI p (xs.drop k) k) ∧ wr = w.drewN n) (fun i _ => xs.length - (intOf i).toNat)
  case atStart => exact ⟨0, 0, by omega, rfl, rfl, rfl⟩
  case round =>
    obtain ⟨k, n, hk, rfl, HR, rfl⟩ := hrel
    by_cases hlt : k < xs.length
    · obtain ⟨a, rfl, hc⟩ := RdI.at_ ha hlt
      rw [drop_cons hlt] at HR
      have hm := hd (List.getElem_mem hlt)
      generalize xs[k] = y at *
      unfold Enters at hg
      obtain ⟨b, hb⟩ : ∃ b, p y = b := ⟨_, rfl⟩
      have HB := hd hb
      clear hb
      go_wp2_with fail
      refine (hp.out y hm.out n).mono ?_
      rintro e w1 ⟨rfl, m, rfl⟩
      rw [HB.out]
      cases b
      · go_wp2
        go_roundw
        case rel => exact ⟨k + 1, _, by omega, by go_num, hd (by rw [HR.out, findI, HB.out]; rfl), rfl⟩
        case measure => simp [intOf]; omega
      · go_wp2
        go_ret
        exact RetQ.mkN (by rw [HR.out, findI, HB.out]; rfl)
    · go_wp2
      go_ret
      exact RetQ.mkN (by rw [HR.out, List.drop_eq_nil_of_le (by omega)]; rfl)
theorem slices_ContainsFunc (xs : List Int) (v : Value) (g : FuncId) (cs : Array Value) (p : Int → Bool) (w : World) (h : RdI w v xs) (hl : xs.length ≤ 1073741824) (hg : Enters g) (hp : Hid (AnsQ g cs p xs w)) :
    Calls Try.prog 119 #[v, .func (.func g) #[] cs] w (RetQ w (.bool (anyI p xs))) := by
  have HB := hd (findI_any p xs 0 (Int.le_refl _))
  have HA := hd h
  clear h
  go_enter Try.func119, Try.ntmps119
  go_wp2_with fail
  refine (slices_IndexFunc xs v g cs p _ HA.out hl hg hp).mono ?_
  rintro e w1 ⟨rfl, n, rfl⟩
  go_wp2
  go_ret
  exact RetQ.mkN (by rw [← HB.out]; rfl)
end Go.Proofs.Ytjeeffmpfdhppaa
