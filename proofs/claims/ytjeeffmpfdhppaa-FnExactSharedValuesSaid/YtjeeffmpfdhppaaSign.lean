/-
  IsLeftPositive and IsRightNegative of both sides. Conditions: sizes up to 2^20.
-/
import Derived.Test.YtjeeffmpfdhppaaSplit
namespace Go.Proofs.Ytjeeffmpfdhppaa
open Go.RowKit
def sgP (both : List Int) (pos : Bool) (l : Int) : Bool := if decide (0 < l) == pos then hasI both (absI l) else false
def signB (cs : List (List Int)) (both : List Int) (pos : Bool) : Bool := anyL (fun c => anyI (sgP both pos) c) cs
theorem good_lit {f : Cnf} (h : goodB f = true) : ∀ c ∈ f.cs, ∀ l ∈ c, -12 ≤ l ∧ l ≤ 12 := fun c hc l hl => by
  obtain ⟨a, b, d, _⟩ := clause_inv ((good_inv h).2.2.2 c hc)
  have := d l hl; omega
def goodSides (f : Cnf) (k : Int) : List Int := bothV f k.toNat f.n.toNat
def leftPosB (f : Cnf) (k : Int) : Bool := if askB f k then !signB (f.cs.take k.toNat) (bothV f k.toNat f.n.toNat) false else false
def rightNegB (f : Cnf) (k : Int) : Bool := if askB f k then !signB (f.cs.drop k.toNat) (bothV f k.toNat f.n.toNat) true else false
theorem both_pos {f : Cnf} (h : goodB f = true) (k : Nat) : ∀ x ∈ bothV f k f.n.toNat, 1 ≤ x ∧ x ≤ 12 := fun x hx => by
  unfold bothV at hx
  have := mem_seqI.1 (List.mem_filter.1 hx).1
  have := (good_inv h).2.1
  omega
theorem good_nz {f : Cnf} (h : goodB f = true) : ∀ c ∈ f.cs, ∀ l ∈ c, l ≠ 0 := fun c hc l hl => ((clause_inv ((good_inv h).2.2.2 c hc)).2.2.1 l hl).2.2
theorem sgP_iff {both : List Int} {pos : Bool} {l : Int} : sgP both pos l = true ↔ (decide (0 < l) == pos) = true ∧ absI l ∈ both := by
  unfold sgP
  cases h : (decide (0 < l) == pos)
  · simp
  · rw [if_pos rfl, hasI_iff]; simp
theorem signB_iff {cs : List (List Int)} {both : List Int} {pos : Bool} : signB cs both pos = true ↔ ∃ c ∈ cs, ∃ l ∈ c, (decide (0 < l) == pos) = true ∧ absI l ∈ both := by
  unfold signB
  rw [anyL_eq, List.any_eq_true]
  constructor
  · rintro ⟨c, h1, h2⟩
    rw [anyI_eq, List.any_eq_true] at h2
    obtain ⟨l, h3, h4⟩ := h2
    exact ⟨c, h1, l, h3, sgP_iff.1 h4⟩
  · rintro ⟨c, h1, l, h3, h4⟩
    exact ⟨c, h1, by rw [anyI_eq, List.any_eq_true]; exact ⟨l, h3, sgP_iff.2 h4⟩⟩
theorem sign_neg {f : Cnf} (h : goodB f = true) (k : Nat) : anyI (fun v => occB (f.cs.take k) (-v)) (bothV f k f.n.toNat) = signB (f.cs.take k) (bothV f k f.n.toNat) false := by
  rw [Bool.eq_iff_iff, signB_iff, anyI_eq, List.any_eq_true]
  constructor
  · rintro ⟨v, hv, ho⟩
    obtain ⟨c, hc, hl⟩ := (occB_iff _ _).1 ho
    have := both_pos h k v hv
    refine ⟨c, hc, -v, hl, by simp; omega, ?_⟩
    unfold absI; rw [if_pos (by omega), Int.neg_neg]; exact hv
  · rintro ⟨c, hc, l, hl, hs, hb⟩
    have hnz := good_nz h c (mem_t c hc) l hl
    have hneg : l < 0 := by simp at hs; omega
    unfold absI at hb; rw [if_pos hneg] at hb
    exact ⟨-l, hb, (occB_iff _ _).2 ⟨c, hc, by rw [Int.neg_neg]; exact hl⟩⟩
theorem sign_pos {f : Cnf} (h : goodB f = true) (k : Nat) : anyI (fun v => occB (f.cs.drop k) v) (bothV f k f.n.toNat) = signB (f.cs.drop k) (bothV f k f.n.toNat) true := by
  rw [Bool.eq_iff_iff, signB_iff, anyI_eq, List.any_eq_true]
  constructor
  · rintro ⟨v, hv, ho⟩
    obtain ⟨c, hc, hl⟩ := (occB_iff _ _).1 ho
    have := both_pos h k v hv
    refine ⟨c, hc, v, hl, by simp; omega, ?_⟩
    unfold absI; rw [if_neg (by omega)]; exact hv
  · rintro ⟨c, hc, l, hl, hs, hb⟩
    have hp : 0 < l := by simpa using hs
    unfold absI at hb; rw [if_neg (by omega)] at hb
    exact ⟨l, hb, (occB_iff _ _).2 ⟨c, hc, hl⟩⟩
end Go.Proofs.Ytjeeffmpfdhppaa
