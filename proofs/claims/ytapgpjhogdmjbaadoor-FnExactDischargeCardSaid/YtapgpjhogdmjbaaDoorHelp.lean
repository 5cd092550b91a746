/-
  What the laws' own helpers do: copy, compare, mark and ask again slices of numbers, of bools, of slices. Conditions: lengths up to 2^30; marks from 0 up to 2^60.
-/
import Derived.Test.YtapgpjhogdmjbaaDoorProg
import Derived.Test.YtapgpjhogdmjbaaDoorBase
namespace Go.Proofs.YtapgpjhogdmjbaaDoor
open Go.RowKit

theorem info_int : (Tryd.prog.info? 3).map (fun i => (i.zero, i.size, i.bytes)) = some (some (.int .i64 0), 1, 8) := by kernel_rfl
theorem info_ints : (Tryd.prog.info? 50).map (fun i => (i.zero, i.size, i.bytes)) = some (some (.slice none 0 0), 1, 24) := by kernel_rfl
theorem info_bool : (Tryd.prog.info? 4).map (fun i => (i.zero, i.size, i.bytes)) = some (some (.bool false), 1, 1) := by kernel_rfl

def eqI : List Int → List Int → Bool
  | [], [] => true
  | x :: xs, y :: ys => if x = y then eqI xs ys else false
  | _, _ => false
theorem eqI_iff (a b : List Int) : eqI a b = true ↔ a = b := by
  induction a generalizing b with
  | nil => cases b <;> simp [eqI]
  | cons x xs ih => cases b with
    | nil => simp [eqI]
    | cons y ys => simp [eqI]; intro _; exact ih ys
theorem eqI_refl (a : List Int) : eqI a a = true := (eqI_iff a a).2 rfl
def eqB : List Bool → List Bool → Bool
  | [], [] => true
  | x :: xs, y :: ys => if x = y then eqB xs ys else false
  | _, _ => false
theorem eqB_iff (a b : List Bool) : eqB a b = true ↔ a = b := by
  induction a generalizing b with
  | nil => cases b <;> simp [eqB]
  | cons x xs ih => cases b with
    | nil => simp [eqB]
    | cons y ys => simp [eqB]; intro _; exact ih ys
theorem eqB_refl (a : List Bool) : eqB a a = true := (eqB_iff a a).2 rfl
def eqII : List (List Int) → List (List Int) → Bool
  | [], [] => true
  | x :: xs, y :: ys => if eqI x y then eqII xs ys else false
  | _, _ => false
theorem eqII_iff (a b : List (List Int)) : eqII a b = true ↔ a = b := by
  induction a generalizing b with
  | nil => cases b <;> simp [eqII]
  | cons x xs ih => cases b with
    | nil => simp [eqII]
    | cons y ys => simp [eqII, ih, eqI_iff]
theorem eqII_refl (a : List (List Int)) : eqII a a = true := (eqII_iff a a).2 rfl

/-- What szIntS leaves of 'left', or -1. -/
def szI (n : Nat) (left : Int) : Int := if left - (n : Int) < 0 then -1 else left - n
def szIIgo : List (List Int) → Int → Int
  | [], left => left
  | xs :: r, left => if szI xs.length left < 0 then -1 else szIIgo r (szI xs.length left)
def szII (xss : List (List Int)) (left : Int) : Int := if left - (xss.length : Int) < 0 then -1 else szIIgo xss (left - xss.length)
theorem szI_bd (n : Nat) (left : Int) (h : left ≤ 1048576) : -1 ≤ szI n left ∧ szI n left ≤ 1048576 := by unfold szI; split <;> omega
theorem szIIgo_le (xss : List (List Int)) : ∀ left : Int, 0 ≤ szIIgo xss left → ∀ xs ∈ xss, (xs.length : Int) ≤ left := by
  induction xss with
  | nil => intro left _ xs h; cases h
  | cons x r ih =>
    intro left h xs hm
    unfold szIIgo at h
    split at h
    · omega
    · rename_i h1
      have h2 : szI x.length left = left - x.length := by
        unfold szI at h1 ⊢
        by_cases hh : left - (x.length : Int) < 0
        · rw [if_pos hh] at h1; omega
        · rw [if_neg hh]
      rcases List.mem_cons.1 hm with rfl | hm
      · omega
      · have := ih _ h xs hm; omega
theorem szIIgo_bd (xss : List (List Int)) : ∀ left : Int, -1 ≤ left → left ≤ 1048576 → -1 ≤ szIIgo xss left ∧ szIIgo xss left ≤ 1048576 := by
  induction xss with
  | nil => intro left h1 h2; exact ⟨h1, h2⟩
  | cons x r ih =>
    intro left h1 h2
    unfold szIIgo
    split
    · omega
    · have := szI_bd x.length left h2; exact ih _ this.1 this.2
theorem szII_bd (xss : List (List Int)) (left : Int) (h2 : left ≤ 1048576) : -1 ≤ szII xss left ∧ szII xss left ≤ 1048576 := by
  unfold szII
  split
  · omega
  · exact szIIgo_bd _ _ (by omega) (by omega)
theorem szIIgo_sum (xss : List (List Int)) : ∀ left : Int, 0 ≤ szIIgo xss left → (sumN (lens xss) : Int) ≤ left := by
  induction xss with
  | nil => intro left h; simpa [szIIgo, lens, sumN] using h
  | cons x r ih =>
    intro left h
    unfold szIIgo at h
    split at h
    · omega
    · rename_i h1
      have h2 : szI x.length left = left - x.length := by
        unfold szI at h1 ⊢
        by_cases hh : left - (x.length : Int) < 0
        · rw [if_pos hh] at h1; omega
        · rw [if_neg hh]
      have := ih _ h
      simp only [lens, List.map_cons, sumN] at this ⊢
      omega
theorem szII_ok {xss : List (List Int)} {left : Int} (h : ¬ szII xss left < 0) : (xss.length : Int) ≤ left ∧ (∀ xs ∈ xss, (xs.length : Int) ≤ left) ∧ (sumN (lens xss) : Int) ≤ left := by
  unfold szII at h
  split at h
  · omega
  · have h0 : 0 ≤ szIIgo xss (left - xss.length) := by omega
    have h1 := szIIgo_le xss (left - xss.length) h0
    have h2 := szIIgo_sum xss (left - xss.length) h0
    refine ⟨by omega, fun xs hx => ?_, by omega⟩
    have := h1 xs hx; omega
/-- What marks leave in a slice of bools. -/
def seqB (k0 : Int) (n : Nat) : List Bool := (List.range n).map fun j : Nat => (k0 + (j : Int)) % 3 == 0
@[simp] theorem length_seqB (k0 : Int) (n : Nat) : (seqB k0 n).length = n := by simp [seqB]
theorem seqB_get {k0 : Int} {n k : Nat} (h : k < n) : (bools (seqB k0 n))[k]? = some (.bool ((k0 + k) % 3 == 0)) := by simp [bools, seqB, h]
theorem getElem_seqB {k0 : Int} {n k : Nat} (h : k < (seqB k0 n).length) : (seqB k0 n)[k] = ((k0 + k) % 3 == 0) := by simp [seqB]
