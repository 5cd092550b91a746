/-
  IsHallSet of both sides, the ends. Condition: sizes up to 2^20.
-/
import Derived.Test.YtjeeffmpfdhppaaHall
import Derived.Test.YtjeeffmpfdhppaaLaw
namespace Go.Proofs.Ytjeeffmpfdhppaa
open Go.RowKit
theorem risingG_mem {lo hi : Int} : ∀ (xs : List Int) (o : Option Int), risingG lo hi o xs = true → ∀ x ∈ xs, lo ≤ x ∧ x ≤ hi
  | [], _, _, x, hx => by simp at hx
  | y :: r, o, h, x, hx => by
    have key : inB y lo hi = true ∧ risingG lo hi (some y) r = true := by
      cases o with
      | none => unfold risingG at h; split at h
                · rename_i hb; exact ⟨hb, h⟩
                · cases h
      | some p => unfold risingG at h; split at h
                  · rename_i hb; split at h
                    · exact ⟨hb, h⟩
                    · cases h
                  · cases h
    rcases List.mem_cons.1 hx with rfl | hx
    · exact inB_iff.1 key.1
    · exact risingG_mem r _ key.2 x hx
theorem choiceG_mem : ∀ (xss : List (List Int)), choiceG xss = true → ∀ xs ∈ xss, risingB 1 3 xs = true
  | [], _, xs, hx => by simp at hx
  | y :: r, h, xs, hx => by
    unfold choiceG at h
    split at h
    · rename_i hb
      rcases List.mem_cons.1 hx with rfl | hx
      · exact hb
      · exact choiceG_mem r h xs hx
    · cases h
theorem choice_inv {xss : List (List Int)} (h : choiceB xss = true) : 1 ≤ xss.length ∧ xss.length ≤ 4 ∧ (∀ xs ∈ xss, xs.length ≤ 3) ∧ (∀ xs ∈ xss, ∀ x ∈ xs, 1 ≤ x ∧ x ≤ 12) := by
  unfold choiceB at h
  rw [Bool.and_eq_true] at h
  have h1 := inB_iff.1 h.1
  refine ⟨by omega, by omega, fun xs hx => rising13_len (choiceG_mem xss h.2 xs hx), fun xs hx x hxx => ?_⟩
  have := risingG_mem xs none (choiceG_mem xss h.2 xs hx) x hxx
  omega
theorem rising_len1 {n : Nat} {sm : List Int} (h : risingB 1 n sm = true) : sm.length ≤ n := by
  cases sm with
  | nil => simp
  | cons x r =>
    unfold risingB risingG at h
    split at h
    · rename_i hb
      rw [inB_iff] at hb
      rcases rising_len 1 n r x h (by omega) with h2 | rfl
      · simp; omega
      · simp; omega
    · cases h
/-- The two ways to ask for a rising list of pigeons. -/
theorem ask_G {n : Int} : ∀ (xs : List Int) (o : Option Int), (∀ p, o = some p → 1 ≤ p) → (clG n o xs && !anyI (fun i => decide (i < 0)) xs) = risingG 1 n o xs
  | [], o, _ => by cases o <;> rfl
  | x :: r, o, ho => by
    by_cases hx : x < 0
    · have hn : inB x 1 n = false := by
        cases hb : inB x 1 n with
        | false => rfl
        | true => have := inB_iff.1 hb; omega
      have ha : anyI (fun i => decide (i < 0)) (x :: r) = true := by simp [anyI, hx]
      rw [ha]
      cases o <;> simp [risingG, hn]
    · have ha : anyI (fun i => decide (i < 0)) (x :: r) = anyI (fun i => decide (i < 0)) r := by simp [anyI, hx]
      have hl : litB n x = inB x 1 n := by
        rw [Bool.eq_iff_iff, litB_iff, inB_iff]
        omega
      rw [ha]
      cases hb : inB x 1 n with
      | false => cases o <;> simp [clG, risingG, hl, hb]
      | true =>
        have h1 := inB_iff.1 hb
        have ih := ask_G (n := n) r (some x) (by intro p hp; obtain rfl := Option.some.inj hp; omega)
        have hax : absI x = x := by unfold absI; rw [if_neg (by omega)]
        cases o with
        | none => simp only [clG, risingG, hl, hb, if_true]; exact ih
        | some p =>
          have hp := ho p rfl
          have hap : absI p = p := by unfold absI; rw [if_neg (by omega)]
          simp only [clG, risingG, hl, hb, if_true, hax, hap]
          by_cases hpx : p < x
          · simp only [hpx, if_true]; exact ih
          · simp [hpx]
theorem hall_ask {n : Nat} (hn : n ≤ 12) (sm : List Int) : (clauseB n sm && !anyI (fun i => decide (i < 0)) sm) = risingB 1 n sm := by
  have : inB (n : Int) 0 12 = true := inB_iff.2 (by omega)
  unfold clauseB risingB
  rw [this, Bool.true_and]
  exact ask_G sm none (by simp)
def hallAsk (xss : List (List Int)) (sm : List Int) : Bool := choiceB xss && risingB 1 xss.length sm
def hallSetB (xss : List (List Int)) (sm : List Int) : Bool := hallAsk xss sm && hallB xss sm
end Go.Proofs.Ytjeeffmpfdhppaa
