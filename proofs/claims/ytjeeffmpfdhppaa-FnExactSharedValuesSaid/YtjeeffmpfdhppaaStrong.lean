/-
  StrongestValues and WeakestValues of both sides. Conditions: sizes up to 2^20.
-/
import Derived.Test.YtjeeffmpfdhppaaPoss
namespace Go.Proofs.Ytjeeffmpfdhppaa
open Go.RowKit
def someOk (f : Cnf) (k : Nat) : Bool := decide ((bothV f k f.n.toNat).length ≤ 6)
def someV (f : Cnf) (k : Nat) (L : List (List Int)) : List Bool := if someOk f k then possV (bothV f k f.n.toNat) L (2 ^ f.n.toNat) else []
def sharedB (f : Cnf) (k : Int) : Bool := askB f k && someOk f k.toNat
def strongV (f : Cnf) (k : Int) : List Bool := if askB f k then someV f k.toNat (f.cs.take k.toNat) else []
def weakV (f : Cnf) (k : Int) : List Bool := if askB f k then (someV f k.toNat (f.cs.drop k.toNat)).map (!·) else []
theorem someV_len (f : Cnf) (k : Nat) (L : List (List Int)) : (someV f k L).length ≤ 64 := by
  unfold someV
  split
  · rename_i h
    rw [possV_len]
    exact pow6 (by simpa [someOk] using h)
  · simp
theorem strongV_bd (f : Cnf) (k : Int) : Bd_BoolS (strongV f k) := by
  unfold strongV Bd_BoolS
  split
  · have := someV_len f k.toNat (f.cs.take k.toNat); omega
  · simp
theorem weakV_bd (f : Cnf) (k : Int) : Bd_BoolS (weakV f k) := by
  unfold weakV Bd_BoolS
  split
  · have := someV_len f k.toNat (f.cs.drop k.toNat); rw [List.length_map]; omega
  · simp
/-- A call returns a new slice of the bools xs and b, in blocks of its own. -/
def RetB2 (w : World) (xs : List Bool) (b : Bool) : Ending → World → Prop := fun en w' => ∃ u, en = .returned (.tuple #[u, .bool b]) ∧ Own_BoolS w' w.heap.size w'.heap.size u xs ∧ Ext w w'
theorem RetB2.mk {w w' : World} {xs : List Bool} {b b' : Bool} {v : Value} (hb : b' = b) (h : OwnB w' w.heap.size 4 v xs) (hx : Ext w w') : RetB2 w xs b (.returned (.tuple #[v, .bool b'])) w' := ⟨v, by rw [hb], .mk h, hx⟩
theorem ownB_emp {w0 w : World} (h : w0.heap.size ≤ w.heap.size) : OwnB (w.alloc (.cells #[] 4)) w0.heap.size 4 (.slice (some ⟨w.heap.size, 0, none⟩) 0 0) [] := own_lit w w0.heap.size 4 1 #[] 0 h (Nat.zero_le _) rfl
theorem ownB_nil (w : World) (base : Nat) : OwnB w base 4 (.slice none 0 0) [] := own_nil _ _ _ _
theorem split_not {xs : List Bool} {k : Nat} (hk : k < xs.length) : (((xs.take k).map (!·)) ++ xs.drop k).set k (!xs[k]) = ((xs.take (k + 1)).map (!·)) ++ xs.drop (k + 1) := by
  have hdc : xs.drop k = xs[k] :: xs.drop (k + 1) := List.drop_eq_getElem_cons hk
  have hl : ((xs.take k).map (!·)).length = k := by simp; omega
  rw [List.set_append_right _ _ (by omega), hl, Nat.sub_self, hdc, List.set_cons_zero, List.take_succ_eq_append_getElem hk, List.map_append, List.append_assoc]
  rfl
theorem ownB_at {w : World} {base : Nat} {e : TypeId} {A : Option Addr} {n c : Nat} {xs : List Bool} (h : OwnB w base e (.slice A n c) xs) (hl : xs.length = n) {j : Nat} (hj : j < n) :
    ∃ g, A = some ⟨g, 0, none⟩ ∧ base ≤ g ∧ w.cell? ⟨g, j, none⟩ = some (.bool (xs[j]'(by omega))) ∧ w.frozen? ⟨g, j, none⟩ = false ∧ Hid (∀ x, OwnB (w.setCell ⟨g, j, none⟩ (.bool x)) base e (.slice (some ⟨g, 0, none⟩) n c) (xs.set j x)) := by
  subst hl
  rcases own_form h with ⟨hv, _⟩ | ⟨g, cap, hv, hgl, _⟩
  · injection hv with _ h2 _
    omega
  · injection hv with hv1 hv2 hv3
    subst hv1; subst hv3
    obtain ⟨-, hf, hst⟩ := ownB_store h rfl hj
    obtain ⟨a, ha, hc⟩ := RdB.at_ (hd h.rd) hj
    injection ha with ha
    subst ha
    have e0 : (⟨g, 0, none⟩ : Addr).add j = ⟨g, j, none⟩ := by unfold Addr.add; split <;> simp_all
    rw [e0] at hc
    exact ⟨g, rfl, hgl, hc, hf, hst⟩
theorem flip_get {xs : List Bool} {j : Nat} (hj : j < xs.length) (h : j < ((xs.take j).map (!·) ++ xs.drop j).length) : ((xs.take j).map (!·) ++ xs.drop j)[j] = xs[j] := by
  rw [List.getElem_append_right (by simp; omega)]
  simp [Nat.min_eq_left (Nat.le_of_lt hj)]
theorem flip_len {xs : List Bool} {j : Nat} (hj : j ≤ xs.length) : ((xs.take j).map (!·) ++ xs.drop j).length = xs.length := by simp; omega
end Go.Proofs.Ytjeeffmpfdhppaa
