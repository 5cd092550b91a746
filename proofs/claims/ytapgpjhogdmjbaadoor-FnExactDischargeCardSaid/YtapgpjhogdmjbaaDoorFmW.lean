/-
  Formulas: the words that tie trees, texts and pointers together; plain laws of the parse. No condition.
-/
import Derived.Test.YtapgpjhogdmjbaaDoorFmP
import Derived.Test.YtapgpjhogdmjbaaDoorFrame
namespace Go.Proofs.YtapgpjhogdmjbaaDoor
open Go.RowKit
/-- The index behind the formula that begins at an index, or -1. -/
def endV (l : List UInt8) (k : Nat) : Int := match pL (l.drop k) with
  | some (_, r) => (l.length : Int) - (r.length : Int)
  | none => -1
theorem pL_eq {n : Nat} {l : List UInt8} (h : l.length ≤ n) : pF n l = pL l := pF_more h (Nat.le_refl _)
theorem pL_nil : pL [] = none := rfl
theorem pL_iff {l : List UInt8} {f : Fm} {r : List UInt8} : pL l = some (f, r) ↔ l = txt f ++ r ∧ WfF f = true := pF_iff (Nat.le_refl _)
theorem pL_rest {l : List UInt8} {f : Fm} {r : List UInt8} (h : pL l = some (f, r)) : r.length < l.length := by
  have h1 := (pL_iff.1 h).1
  have h2 := txt_pos f
  rw [h1, List.length_append]; omega
theorem pL_leaf {c : UInt8} {r : List UInt8} (h : isLf c = true) : pL (c :: r) = some (.leaf c, r) := by
  unfold pL
  rw [List.length_cons, pF, if_pos h]
theorem pL_neg (r : List UInt8) : pL (126 :: r) = match pL r with
    | some (a, r1) => some (.neg a, r1)
    | none => none := by
  conv => lhs; unfold pL
  rw [List.length_cons, pF, if_neg (by decide), if_pos rfl]
  rfl
theorem pL_bad {c : UInt8} {r : List UInt8} (h : isLf c = false) (h2 : c ≠ 126) (h3 : c ≠ 40) : pL (c :: r) = none := by
  unfold pL
  rw [List.length_cons, pF, h, if_neg (by decide), if_neg h2, if_pos h3]
/-- Behind an opening bracket. -/
def pB (r : List UInt8) : Option (Fm × List UInt8) := match pL r with
  | none => none
  | some (_, []) => none
  | some (a, o :: r1) => if isOp o then match pL r1 with
    | none => none
    | some (_, []) => none
    | some (b, e :: r2) => if e = 41 then some (.bin o a b, r2) else none
    else none
theorem pL_open (r : List UInt8) : pL (40 :: r) = pB r := by
  conv => lhs; unfold pL
  rw [List.length_cons, pF, if_neg (by decide), if_neg (by decide), if_neg (by decide)]
  unfold pB
  rw [show pF r.length r = pL r from rfl]
  cases h : pL r with
  | none => rfl
  | some q =>
    obtain ⟨a, t⟩ := q
    cases t with
    | nil => rfl
    | cons o r1 =>
      have h1 := pL_rest h
      dsimp only
      rw [pL_eq (n := r.length) (l := r1) (by simp at h1; omega)]
      rfl
theorem endV_nil {l : List UInt8} {k : Nat} (h : l.length ≤ k) : endV l k = -1 := by unfold endV; rw [List.drop_eq_nil_of_le h, pL_nil]
theorem endV_some {l : List UInt8} {k : Nat} {f : Fm} {r : List UInt8} (h : pL (l.drop k) = some (f, r)) : endV l k = (l.length : Int) - r.length := by unfold endV; rw [h]
theorem endV_none {l : List UInt8} {k : Nat} (h : pL (l.drop k) = none) : endV l k = -1 := by unfold endV; rw [h]
/-- What is left is a drop. -/
theorem pL_drop {l : List UInt8} {k : Nat} {f : Fm} {r : List UInt8} (h : pL (l.drop k) = some (f, r)) : k < l.length ∧ ∃ m : Nat, k < m ∧ m ≤ l.length ∧ r = l.drop m ∧ (l.length : Int) - r.length = m := by
  have h1 := (pL_iff.1 h).1
  have h2 := txt_pos f
  have hl : (l.drop k).length = (txt f).length + r.length := by rw [h1, List.length_append]
  rw [List.length_drop] at hl
  refine ⟨by omega, l.length - r.length, by omega, by omega, ?_, by omega⟩
  have h3 : r = (l.drop k).drop (txt f).length := by rw [h1, List.drop_left]
  conv => lhs; rw [h3, List.drop_drop]
  congr 1
  omega
/-- The pointer value v leads to the tree f. -/
def RdF (T : TypeId) (w : World) : Fm → Value → Prop
  | .leaf c, v => ∃ b, v = .pointer (some ⟨b, 0, none⟩) ∧ w.heap[b]? = some (.cells #[.int .u8 c.toNat, .pointer none, .pointer none, .string (strF (.leaf c))] T (0, 0))
  | .neg a, v => ∃ b va, v = .pointer (some ⟨b, 0, none⟩) ∧ w.heap[b]? = some (.cells #[.int .u8 126, va, .pointer none, .string (strF (.neg a))] T (0, 0)) ∧ RdF T w a va
  | .bin o x y, v => ∃ b vx vy, v = .pointer (some ⟨b, 0, none⟩) ∧ w.heap[b]? = some (.cells #[.int .u8 o.toNat, vx, vy, .string (strF (.bin o x y))] T (0, 0)) ∧ RdF T w x vx ∧ RdF T w y vy
theorem RdF.ext {T : TypeId} {w w' : World} (hx : Ext w w') : ∀ {f : Fm} {v : Value}, RdF T w f v → RdF T w' f v
  | .leaf _, _, ⟨b, h1, h2⟩ => ⟨b, h1, hx.heap h2⟩
  | .neg _, _, ⟨b, va, h1, h2, h3⟩ => ⟨b, va, h1, hx.heap h2, RdF.ext hx h3⟩
  | .bin _ _ _, _, ⟨b, vx, vy, h1, h2, h3, h4⟩ => ⟨b, vx, vy, h1, hx.heap h2, RdF.ext hx h3, RdF.ext hx h4⟩
/-- The head of a node: its sign, its children, its text. -/
def opF : Fm → UInt8
  | .leaf c => c
  | .neg _ => 126
  | .bin o _ _ => o
theorem RdF.head {T : TypeId} {w : World} {f : Fm} {v : Value} (h : RdF T w f v) : ∃ b vx vy, v = .pointer (some ⟨b, 0, none⟩) ∧ w.heap[b]? = some (.cells #[.int .u8 (opF f).toNat, vx, vy, .string (strF f)] T (0, 0)) := by
  cases f with
  | leaf c => obtain ⟨b, h1, h2⟩ := h; exact ⟨b, _, _, h1, h2⟩
  | neg a => obtain ⟨b, va, h1, h2, _⟩ := h; exact ⟨b, _, _, h1, h2⟩
  | bin o x y => obtain ⟨b, vx, vy, h1, h2, _⟩ := h; exact ⟨b, _, _, h1, h2⟩
theorem strF_neg (f : Fm) : (⟨#[126]⟩ : ByteArray) ++ strF f = strF (.neg f) := by
  refine strF_of ?_
  simp [strF, txt]
theorem strF_bin (o : UInt8) (x y : Fm) : (⟨#[40]⟩ : ByteArray) ++ strF x ++ ⟨#[o]⟩ ++ strF y ++ ⟨#[41]⟩ = strF (.bin o x y) := by
  refine strF_of ?_
  simp [strF, txt]
theorem list_ext {s t : ByteArray} (h : s.data.toList = t.data.toList) : s = t := by
  obtain ⟨⟨l⟩⟩ := s
  obtain ⟨⟨m⟩⟩ := t
  have h : l = m := h
  rw [h]
/-- A byte is one of four kinds. -/
theorem byte_cases (c : UInt8) : (isLf c = true ∧ (c.toNat = 48 ∨ c.toNat = 49 ∨ (97 ≤ c.toNat ∧ c.toNat ≤ 102))) ∨ c.toNat = 126 ∨ c.toNat = 40 ∨ (isLf c = false ∧ c.toNat ≠ 48 ∧ c.toNat ≠ 49 ∧ (c.toNat < 97 ∨ 102 < c.toNat) ∧ c.toNat ≠ 126 ∧ c.toNat ≠ 40) := by
  have e48 : (c == 48) = decide (c.toNat = 48) := by rw [Bool.eq_iff_iff]; simp [← UInt8.toNat_inj]
  have e49 : (c == 49) = decide (c.toNat = 49) := by rw [Bool.eq_iff_iff]; simp [← UInt8.toNat_inj]
  unfold isLf
  rw [e48, e49]
  by_cases h1 : c.toNat = 48
  · exact .inl ⟨by simp [h1], .inl h1⟩
  by_cases h2 : c.toNat = 49
  · exact .inl ⟨by simp [h2], .inr (.inl h2)⟩
  by_cases h3 : 97 ≤ c.toNat ∧ c.toNat ≤ 102
  · exact .inl ⟨by simp [h3], .inr (.inr h3)⟩
  by_cases h4 : c.toNat = 126
  · exact .inr (.inl h4)
  by_cases h5 : c.toNat = 40
  · exact .inr (.inr (.inl h5))
  refine .inr (.inr (.inr ⟨?_, h1, h2, by omega, h4, h5⟩))
  rw [Bool.eq_false_iff]
  simp [h1, h2]
  omega
theorem u8_eq {c : UInt8} {n : Nat} (h : c.toNat = n) : c = UInt8.ofNat n := by rw [← h]; simp
theorem op_cases (c : UInt8) : (isOp c = true ∧ (c.toNat = 38 ∨ c.toNat = 124 ∨ c.toNat = 62)) ∨ (isOp c = false ∧ c.toNat ≠ 38 ∧ c.toNat ≠ 124 ∧ c.toNat ≠ 62) := by
  have e1 : (c == 38) = decide (c.toNat = 38) := by rw [Bool.eq_iff_iff]; simp [← UInt8.toNat_inj]
  have e2 : (c == 124) = decide (c.toNat = 124) := by rw [Bool.eq_iff_iff]; simp [← UInt8.toNat_inj]
  have e3 : (c == 62) = decide (c.toNat = 62) := by rw [Bool.eq_iff_iff]; simp [← UInt8.toNat_inj]
  unfold isOp
  rw [e1, e2, e3]
  by_cases h1 : c.toNat = 38
  · exact .inl ⟨by simp [h1], .inl h1⟩
  by_cases h2 : c.toNat = 124
  · exact .inl ⟨by simp [h2], .inr (.inl h2)⟩
  by_cases h3 : c.toNat = 62
  · exact .inl ⟨by simp [h3], .inr (.inr h3)⟩
  exact .inr ⟨by simp [h1, h2, h3], h1, h2, h3⟩
theorem drop_get {s : ByteArray} {k : Nat} (h : k < s.size) : s.data.toList.drop k = s[k] :: s.data.toList.drop (k + 1) := List.drop_eq_getElem_cons (by simpa using h)
theorem len_list (s : ByteArray) : s.data.toList.length = s.size := by simp
theorem get_of_list {s : ByteArray} {l r : List UInt8} {c : UInt8} (h : s.data.toList = l ++ c :: r) (hk : l.length < s.size) : s[l.length] = c := by
  have h1 : s.data.toList[l.length]? = some c := by rw [h]; simp
  have h2 := drop_get hk
  have h3 : s.data.toList.drop l.length = c :: r := by rw [h]; simp
  rw [h3] at h2
  injection h2 with h2 _
  exact h2.symm
theorem extract_list (s : ByteArray) (a b : Nat) : (s.extract a b).data.toList = (s.data.toList.take b).drop a := by
  rw [ByteArray.data_extract, Array.toList_extract, List.drop_take]
theorem blk4F {w : World} {b : Nat} {x y z u : Value} {e : TypeId} (h : w.heap[b]? = some (.cells #[x, y, z, u] e)) : w.cell? ⟨b, 0, none⟩ = some x ∧ w.cell? ⟨b, 1, none⟩ = some y ∧ w.cell? ⟨b, 2, none⟩ = some z ∧ w.cell? ⟨b, 3, none⟩ = some u := by
  refine ⟨?_, ?_, ?_, ?_⟩ <;> simp [World.cell?, h]
end Go.Proofs.YtapgpjhogdmjbaaDoor
