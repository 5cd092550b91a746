/-
  Cases of schemes: plain words. No condition.
-/
import Derived.Test.YtapgpjhogdmjbaaDoorFmQ
namespace Go.Proofs.YtapgpjhogdmjbaaDoor
/-- A scheme's tree with trees put for the letters a, b, c. -/
def putF (x y z : Fm) : Fm → Fm
  | .leaf c => if c = 97 then x else if c = 98 then y else if c = 99 then z else .leaf c
  | .neg a => .neg (putF x y z a)
  | .bin o a b => .bin o (putF x y z a) (putF x y z b)
def subC (x y z : List UInt8) (c : UInt8) : List UInt8 := if c = 97 then x else if c = 98 then y else if c = 99 then z else [c]
def subB (x y z l : List UInt8) : List UInt8 := l.flatMap (subC x y z)
theorem subB_app (x y z l r : List UInt8) : subB x y z (l ++ r) = subB x y z l ++ subB x y z r := by simp [subB]
theorem subB_one (x y z : List UInt8) (c : UInt8) : subB x y z [c] = subC x y z c := by simp [subB]
theorem subB_take {x y z l : List UInt8} {k : Nat} (h : k < l.length) : subB x y z (l.take (k + 1)) = subB x y z (l.take k) ++ subC x y z l[k] := by
  rw [List.take_succ_eq_append_getElem h, subB_app, subB_one]
theorem subC_op {x y z : List UInt8} {o : UInt8} (h : isOp o = true) : subC x y z o = [o] := by
  unfold isOp at h
  have h2 : o = 38 ∨ o = 124 ∨ o = 62 := by simpa [or_assoc] using h
  rcases h2 with rfl | rfl | rfl <;> rfl
theorem subB_txt (x y z : Fm) : ∀ f : Fm, WfF f = true → txt (putF x y z f) = subB (txt x) (txt y) (txt z) (txt f)
  | .leaf c, _ => by
    show _ = subB _ _ _ [c]
    rw [subB_one]
    unfold putF subC
    split
    · rfl
    · split
      · rfl
      · split <;> rfl
  | .neg a, h => by
    show 126 :: txt (putF x y z a) = subB _ _ _ ([126] ++ txt a)
    rw [subB_app, subB_one, subB_txt x y z a h]; rfl
  | .bin o a b, h => by
    have h' : (isOp o && (WfF a && WfF b)) = true := h
    rw [Bool.and_eq_true, Bool.and_eq_true] at h'
    show 40 :: (txt (putF x y z a) ++ o :: (txt (putF x y z b) ++ [41])) = subB _ _ _ ([40] ++ (txt a ++ ([o] ++ (txt b ++ [41]))))
    rw [subB_app, subB_app, subB_app, subB_app, subB_one, subB_one, subB_one, subC_op h'.1, subB_txt x y z a h'.2.1, subB_txt x y z b h'.2.2]
    rfl
/-- The letters of a tree are a, b, c. -/
def abcF : Fm → Bool
  | .leaf c => c == 97 || c == 98 || c == 99 || c == 48 || c == 49
  | .neg a => abcF a
  | .bin _ a b => abcF a && abcF b
/-- A tree has a letter. -/
def occF (l : UInt8) : Fm → Bool
  | .leaf c => c == l
  | .neg a => occF l a
  | .bin _ a b => occF l a || occF l b
theorem putF_wf {x y z : Fm} (hx : WfF x = true) (hy : WfF y = true) (hz : WfF z = true) : ∀ f : Fm, WfF f = true → WfF (putF x y z f) = true
  | .leaf c, h => by
    unfold putF
    split
    · exact hx
    · split
      · exact hy
      · split
        · exact hz
        · exact h
  | .neg a, h => putF_wf hx hy hz a h
  | .bin o a b, h => by
    have h' : (isOp o && (WfF a && WfF b)) = true := h
    rw [Bool.and_eq_true, Bool.and_eq_true] at h'
    show (isOp o && (WfF (putF x y z a) && WfF (putF x y z b))) = true
    rw [h'.1, putF_wf hx hy hz a h'.2.1, putF_wf hx hy hz b h'.2.2]; rfl
theorem putF_len {x y z : Fm} {M : Nat} (hx : (txt x).length ≤ M) (hy : (txt y).length ≤ M) (hz : (txt z).length ≤ M) (h1 : 1 ≤ M) : ∀ f : Fm, (txt (putF x y z f)).length ≤ (txt f).length * M
  | .leaf c => by
    show (txt (putF x y z (.leaf c))).length ≤ 1 * M
    unfold putF
    split
    · omega
    · split
      · omega
      · split
        · omega
        · show 1 ≤ 1 * M
          omega
  | .neg a => by
    have ih := putF_len hx hy hz h1 a
    show (txt (putF x y z a)).length + 1 ≤ ((txt a).length + 1) * M
    rw [Nat.add_mul]; omega
  | .bin o a b => by
    have i1 := putF_len hx hy hz h1 a
    have i2 := putF_len hx hy hz h1 b
    have e1 : (txt (putF x y z (.bin o a b))).length = (txt (putF x y z a)).length + (txt (putF x y z b)).length + 3 := by simp [putF, txt]; omega
    have e2 : (txt (.bin o a b)).length = (txt a).length + (txt b).length + 3 := by simp [txt]; omega
    rw [e1, e2, Nat.add_mul, Nat.add_mul]; omega
/-- The schemes. -/
def schT : Nat → Fm
  | 1 => .bin 62 (.leaf 97) (.bin 62 (.leaf 98) (.leaf 97))
  | 2 => .bin 62 (.bin 62 (.leaf 97) (.bin 62 (.leaf 98) (.leaf 99))) (.bin 62 (.bin 62 (.leaf 97) (.leaf 98)) (.bin 62 (.leaf 97) (.leaf 99)))
  | 3 => .bin 62 (.bin 62 (.neg (.leaf 97)) (.neg (.leaf 98))) (.bin 62 (.leaf 98) (.leaf 97))
  | 4 => .bin 62 (.bin 38 (.leaf 97) (.leaf 98)) (.leaf 97)
  | 5 => .bin 62 (.bin 38 (.leaf 97) (.leaf 98)) (.leaf 98)
  | 6 => .bin 62 (.leaf 97) (.bin 62 (.leaf 98) (.bin 38 (.leaf 97) (.leaf 98)))
  | 7 => .bin 62 (.leaf 97) (.bin 124 (.leaf 97) (.leaf 98))
  | 8 => .bin 62 (.leaf 98) (.bin 124 (.leaf 97) (.leaf 98))
  | 9 => .bin 62 (.bin 62 (.leaf 97) (.leaf 99)) (.bin 62 (.bin 62 (.leaf 98) (.leaf 99)) (.bin 62 (.bin 124 (.leaf 97) (.leaf 98)) (.leaf 99)))
  | _ => .leaf 49
/-- The schemes' texts. -/
def schS (k : Nat) : ByteArray := strF (schT k)
theorem schT_ok (k : Nat) : WfF (schT k) = true ∧ abcF (schT k) = true ∧ (txt (schT k)).length ≤ 40 ∧ 1 ≤ (txt (schT k)).length := by
  unfold schT
  split <;> decide
/-- The case of a scheme. -/
def caseL (k : Nat) (a b c : List UInt8) : List UInt8 := subB a b c (txt (schT k))
theorem caseL_txt (k : Nat) (x y z : Fm) : caseL k (txt x) (txt y) (txt z) = txt (putF x y z (schT k)) := (subB_txt x y z _ (schT_ok k).1).symm
end Go.Proofs.YtapgpjhogdmjbaaDoor
