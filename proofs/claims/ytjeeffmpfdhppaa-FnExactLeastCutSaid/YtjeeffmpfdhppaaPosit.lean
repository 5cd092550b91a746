/-
  PositiveForm of both sides. Condition: sizes up to 2^20.
-/
import Derived.Test.YtjeeffmpfdhppaaSort
import Derived.Test.YtjeeffmpfdhppaaCount
namespace Go.Proofs.Ytjeeffmpfdhppaa
open Go.RowKit
/-- The other pigeons 1 .. k than the one of the literal's variable (z: the variable less one), in its hole. -/
def pPart (m z k : Nat) : List Int := ((List.range k).filter fun i => i != z / m).map fun i : Nat => pvar m ((i : Int) + 1) ((z : Int) % (m : Int) + 1)
def pOne (m : Nat) (l : Int) : List Int := if 0 < l then [l] else pPart m (-l - 1).toNat (m + 1)
def posL (m : Nat) (c : List Int) : List Int := c.flatMap (pOne m)
theorem pPart_yes {m z k : Nat} (h : k ≠ z / m) : pPart m z (k + 1) = pPart m z k ++ [pvar m ((k : Int) + 1) ((z : Int) % (m : Int) + 1)] := by simp [pPart, List.range_succ, List.filter_append, h]
theorem pPart_no {m z k : Nat} (h : k = z / m) : pPart m z (k + 1) = pPart m z k := by simp [pPart, List.range_succ, List.filter_append, h]
theorem pPart_len (m z k : Nat) : (pPart m z k).length ≤ k := by
  unfold pPart
  rw [List.length_map]
  exact Nat.le_trans (List.length_filter_le _ _) (by simp)
theorem pOne_len (m : Nat) (l : Int) : (pOne m l).length ≤ m + 1 := by
  unfold pOne
  split
  · simp
  · exact pPart_len _ _ _
theorem posL_len (m : Nat) (c : List Int) : (posL m c).length ≤ (m + 1) * c.length := by
  induction c with
  | nil => simp [posL]
  | cons x r ih =>
    have h1 := pOne_len m x
    have e : posL m (x :: r) = pOne m x ++ posL m r := by simp [posL]
    rw [e, List.length_append, List.length_cons, Nat.mul_succ]
    omega
theorem posL_snoc (m : Nat) (c : List Int) (x : Int) : posL m (c ++ [x]) = posL m c ++ pOne m x := by simp [posL]
/-- Which pigeon is the literal's own. -/
theorem pvar_own {m z k : Nat} (hm : 1 ≤ m ∧ m ≤ 3) : (pvar m ((k : Int) + 1) ((z : Int) % (m : Int) + 1) = (z : Int) + 1) ↔ k = z / m := by
  unfold pvar
  have hm3 : m = 1 ∨ m = 2 ∨ m = 3 := by omega
  rcases hm3 with rfl | rfl | rfl <;> constructor <;> intro h <;> omega
theorem pvar_bd {m z k : Nat} (hm : 1 ≤ m ∧ m ≤ 3) (hk : k ≤ 3) : 1 ≤ pvar m ((k : Int) + 1) ((z : Int) % (m : Int) + 1) ∧ pvar m ((k : Int) + 1) ((z : Int) % (m : Int) + 1) ≤ 12 := by
  unfold pvar
  have hm3 : m = 1 ∨ m = 2 ∨ m = 3 := by omega
  rcases hm3 with rfl | rfl | rfl <;> constructor <;> omega
theorem posL_pos {m : Nat} (hm : 1 ≤ m ∧ m ≤ 3) {c : List Int} (hc : ∀ x ∈ c, -12 ≤ x ∧ x ≤ 12) : ∀ z ∈ posL m c, 1 ≤ z ∧ z ≤ 12 := by
  intro z hz
  obtain ⟨l, hl, hz⟩ := List.mem_flatMap.1 hz
  have := hc l hl
  unfold pOne at hz
  split at hz
  · obtain rfl := List.mem_singleton.1 hz; omega
  · unfold pPart at hz
    obtain ⟨k, hk, rfl⟩ := List.mem_map.1 hz
    have := List.mem_range.1 (List.mem_filter.1 hk).1
    exact pvar_bd hm (by omega)
theorem map_absW {l : List Int} (h : ∀ z ∈ l, 1 ≤ z ∧ z ≤ 12) : l.map absW = l := by
  conv => rhs; rw [← List.map_id l]
  refine List.map_congr_left fun z hz => ?_
  have := h z hz
  rw [absW_eq (by omega)]
  unfold absI
  rw [if_neg (by omega)]
  rfl
theorem takes_len {n : Int} {c : List Int} (h : takesB n c = true) : c.length ≤ 12 := by
  unfold takesB at h
  rw [Bool.and_eq_true] at h
  obtain ⟨_, b, _, d⟩ := clause_inv h.2
  omega
def posN (n : Int) (c : List Int) : List Int := if takesB n c then sortU (posL n.toNat c) else []
theorem foldP_le (ks P : List Int) : (ks.foldl putI P).length ≤ P.length + ks.length := by
  induction ks generalizing P with
  | nil => simp
  | cons x r ih => rw [List.foldl_cons]; have := ih (putI P x); have := putI_le P x; simp; omega
theorem posN_bd (n : Int) (c : List Int) : Bd_IntS (posN n c) := by
  unfold posN Bd_IntS
  split
  · rename_i h
    have h1 := sortU_len (posL n.toNat c)
    have h2 := posL_len n.toNat c
    have h3 := takes_len h
    obtain ⟨⟨m, rfl, hm⟩, _⟩ := takes_inv h
    rw [Int.toNat_natCast] at *
    have : (m + 1) * c.length ≤ 4 * 12 := Nat.mul_le_mul (by omega) h3
    omega
  · simp
/-- A slice of one slice, in a block of its own. -/
theorem rdSS_one {w W : World} {e : TypeId} {u : Value} {xs : List Int} (h : RdI W u xs) (hx : Ext (w.alloc (.cells #[u] e)) W) : RdSS W (.slice (some ⟨w.heap.size, 0, none⟩) 1 1) [xs] := by
  refine ⟨[u], Rd.ext (s := 1) (n := 1) (cs := [u]) ⟨rfl, some ⟨w.heap.size, 0, none⟩, 1, rfl, Nat.le_refl _, by unfold maxLen; omega, fun j x hx => ⟨_, rfl, ?_⟩⟩ hx, fun i ys hi => ?_⟩
  · exact cell_one_new w _ e j x hx
  · cases i with
    | zero => obtain rfl : xs = ys := by simpa using hi
              exact ⟨u, rfl, h⟩
    | succ i => simp at hi
end Go.Proofs.Ytjeeffmpfdhppaa
