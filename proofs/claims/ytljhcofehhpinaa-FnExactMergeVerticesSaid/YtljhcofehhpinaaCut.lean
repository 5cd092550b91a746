/-
  Cuts of charged graphs: both sides. Condition: sizes up to 2^20.
-/
import Derived.Test.YtljhcofehhpinaaEdgesAt
import Derived.Test.YtljhcofehhpinaaSel
import Derived.IntWalk
namespace Go.Proofs.Ytljhcofehhpinaa
open Go.RowKit
/-- The edge of index k has just one vertex in xs. -/
def crB (es : List (Int × Int)) (xs : List Int) (k : Nat) : Bool := match es[k]? with
  | some e => hasI xs e.1 != hasI xs e.2
  | none => false
theorem crB_of {es : List (Int × Int)} {xs : List Int} {k : Nat} (h : k < es.length) : crB es xs k = (hasI xs es[k].1 != hasI xs es[k].2) := by unfold crB; rw [List.getElem?_eq_getElem h]
def cutL (g : Chg) (xs : List Int) : List Int := selN (crB g.es xs) g.es.length
def someB (g : Chg) (xs : List Int) : Bool := goodC g && risingB 0 (g.n - 1) xs
def cutSizeN (g : Chg) (xs : List Int) : Int := if someB g xs then ((cutL g xs).length : Int) else 0
theorem rising_mem {lo hi : Int} : ∀ (xs : List Int) (o : Option Int), risingG lo hi o xs = true → ∀ x ∈ xs, lo ≤ x ∧ x ≤ hi
  | [], _, _, x, hx => by simp at hx
  | y :: r, o, h, x, hx => by
    have key : inB y lo hi = true ∧ risingG lo hi (some y) r = true := by
      cases o with
      | none =>
        unfold risingG at h
        split at h
        · rename_i h1; exact ⟨h1, h⟩
        · cases h
      | some p =>
        unfold risingG at h
        split at h
        · rename_i h1
          split at h
          · exact ⟨h1, h⟩
          · cases h
        · cases h
    rcases List.mem_cons.1 hx with rfl | hx
    · exact inB_iff.1 key.1
    · exact rising_mem r _ key.2 x hx
theorem risingC_len1 (lo hi : Int) (xs : List Int) : ∀ p : Int, risingG lo hi (some p) xs = true → lo - 1 ≤ p → (xs.length : Int) ≤ hi - p ∨ xs = [] := by
  induction xs with
  | nil => intro p _ _; exact .inr rfl
  | cons x r ih =>
    intro p h hp
    unfold risingG at h
    split at h
    · rename_i hb
      rw [inB_iff] at hb
      split at h
      · rename_i hpx
        rcases ih x h (by omega) with h2 | rfl
        · simp; omega
        · simp; omega
      · cases h
    · cases h
theorem rising_bd {lo hi : Int} {xs : List Int} (h : risingB lo hi xs = true) : (xs.length : Int) ≤ hi - lo + 1 ∨ xs = [] := by
  cases xs with
  | nil => exact .inr rfl
  | cons x r =>
    left
    unfold risingB risingG at h
    split at h
    · rename_i hb
      rw [inB_iff] at hb
      rcases risingC_len1 lo hi r x h (by omega) with h2 | rfl
      · simp; omega
      · simp; omega
    · cases h
theorem someB_idx {g : Chg} {xs : List Int} (h : someB g xs = true) : Idx g.cs.length xs ∧ xs.length ≤ 8 ∧ (∀ c ∈ g.cs, 0 ≤ c ∧ c ≤ 1) ∧ g.es.length ≤ 12 := by
  unfold someB at h
  rw [Bool.and_eq_true] at h
  obtain ⟨h1, h2, h3, h4, h5, h6, h7⟩ := goodC_inv h.1
  refine ⟨fun x hx => ?_, ?_, h6, h3⟩
  · have := rising_mem xs none h.2 x hx
    obtain ⟨j, rfl⟩ := Int.eq_ofNat_of_zero_le this.1
    exact ⟨j, rfl, by omega⟩
  · rcases rising_bd h.2 with h' | rfl
    · omega
    · simp
/-- The charges of the vertices, added to s. -/
def sumAt (cs : List Int) : List Int → Int → Int
  | [], s => s
  | x :: r, s => sumAt cs r (s + cs[x.toNat]?.getD 0)
end Go.Proofs.Ytljhcofehhpinaa
