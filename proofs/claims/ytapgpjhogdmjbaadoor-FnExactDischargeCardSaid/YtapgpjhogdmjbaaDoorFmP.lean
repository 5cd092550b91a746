/-
  Formulas as trees, their texts, and the parse of a text. Plain words. No condition.
-/
import Derived.Test.YtapgpjhogdmjbaaDoorBase
namespace Go.Proofs.YtapgpjhogdmjbaaDoor
open Go.RowKit
inductive Fm where
  | leaf (c : UInt8)
  | neg (a : Fm)
  | bin (o : UInt8) (a b : Fm)
def isLf (c : UInt8) : Bool := c == 48 || c == 49 || (decide (97 ≤ c.toNat) && decide (c.toNat ≤ 102))
def isOp (c : UInt8) : Bool := c == 38 || c == 124 || c == 62
def txt : Fm → List UInt8
  | .leaf c => [c]
  | .neg a => 126 :: txt a
  | .bin o a b => 40 :: (txt a ++ o :: (txt b ++ [41]))
def WfF : Fm → Bool
  | .leaf c => isLf c
  | .neg a => WfF a
  | .bin o a b => isOp o && (WfF a && WfF b)
theorem txt_pos : ∀ f : Fm, 1 ≤ (txt f).length
  | .leaf _ => by simp [txt]
  | .neg _ => by simp [txt]
  | .bin _ _ _ => by simp [txt]
def pF : Nat → List UInt8 → Option (Fm × List UInt8)
  | 0, _ => none
  | _ + 1, [] => none
  | n + 1, c :: r =>
    if isLf c then some (.leaf c, r)
    else if c = 126 then
      match pF n r with
      | some (a, r1) => some (.neg a, r1)
      | none => none
    else if c ≠ 40 then none
    else
      match pF n r with
      | none => none
      | some (_, []) => none
      | some (a, o :: r1) =>
        if isOp o then
          match pF n r1 with
          | none => none
          | some (_, []) => none
          | some (b, e :: r2) => if e = 41 then some (.bin o a b, r2) else none
        else none
theorem pF_sound : ∀ (n : Nat) (l : List UInt8) (f : Fm) (r : List UInt8), pF n l = some (f, r) → l = txt f ++ r ∧ WfF f = true
  | 0, l, f, r, h => by simp [pF] at h
  | n + 1, [], f, r, h => by simp [pF] at h
  | n + 1, c :: l, f, r, h => by
    unfold pF at h
    split at h
    · rename_i hc
      injection h with h
      injection h with h1 h2
      subst h1; subst h2
      exact ⟨rfl, hc⟩
    · split at h
      · rename_i hc
        split at h
        · rename_i a r1 he
          injection h with h
          injection h with h1 h2
          subst h1; subst h2
          obtain ⟨e1, e2⟩ := pF_sound n _ _ _ he
          exact ⟨by rw [e1, hc]; rfl, e2⟩
        · cases h
      · split at h
        · cases h
        · rename_i hc
          have hc : c = 40 := Classical.not_not.1 hc
          split at h
          · cases h
          · cases h
          · rename_i a o r1 he
            obtain ⟨e1, e2⟩ := pF_sound n _ _ _ he
            split at h
            · rename_i ho
              split at h
              · cases h
              · cases h
              · rename_i b e r2 he2
                obtain ⟨e3, e4⟩ := pF_sound n _ _ _ he2
                split at h
                · rename_i h41
                  injection h with h
                  injection h with h1 h2
                  subst h1; subst h2
                  refine ⟨?_, ?_⟩
                  · rw [e1, e3, hc, h41]
                    simp [txt]
                  · unfold WfF
                    rw [ho, e2, e4]; rfl
                · cases h
            · cases h
theorem pF_full : ∀ (f : Fm) (n : Nat) (r : List UInt8), WfF f = true → (txt f).length ≤ n → pF n (txt f ++ r) = some (f, r)
  | .leaf c, 0, r, _, hn => by simp [txt] at hn
  | .neg a, 0, r, _, hn => by simp [txt] at hn
  | .bin o a b, 0, r, _, hn => by simp [txt] at hn
  | .leaf c, n + 1, r, hw, _ => by
    have hw : isLf c = true := hw
    show pF (n + 1) (c :: r) = _
    unfold pF
    rw [if_pos hw]
  | .neg a, n + 1, r, hw, hn => by
    have hw : WfF a = true := hw
    have ih := pF_full a n r hw (by simp [txt] at hn; omega)
    show pF (n + 1) (126 :: (txt a ++ r)) = _
    unfold pF
    rw [if_neg (by decide), if_pos rfl, ih]
  | .bin o a b, n + 1, r, hw, hn => by
    have hw : (isOp o && (WfF a && WfF b)) = true := hw
    rw [Bool.and_eq_true, Bool.and_eq_true] at hw
    have hl : (txt a).length ≤ n ∧ (txt b).length ≤ n := by simp [txt] at hn; omega
    have iha := pF_full a n (o :: (txt b ++ 41 :: r)) hw.2.1 hl.1
    have ihb := pF_full b n (41 :: r) hw.2.2 hl.2
    have e : txt (.bin o a b) ++ r = 40 :: (txt a ++ o :: (txt b ++ 41 :: r)) := by simp [txt]
    rw [e]
    unfold pF
    rw [if_neg (by decide), if_neg (by decide), if_neg (by decide), iha]
    dsimp only
    rw [if_pos hw.1, ihb]
    dsimp only
    rw [if_pos rfl]
theorem pF_iff {n : Nat} {l : List UInt8} {f : Fm} {r : List UInt8} (hn : l.length ≤ n) : pF n l = some (f, r) ↔ l = txt f ++ r ∧ WfF f = true := by
  constructor
  · exact pF_sound n l f r
  · rintro ⟨rfl, hw⟩
    exact pF_full f n r hw (by simp at hn; omega)
/-- Enough is enough. -/
theorem pF_more {n m : Nat} {l : List UInt8} (hn : l.length ≤ n) (hm : l.length ≤ m) : pF n l = pF m l := by
  cases h : pF n l with
  | some q =>
    obtain ⟨f, r⟩ := q
    exact ((pF_iff hm).2 ((pF_iff hn).1 h)).symm
  | none =>
    cases h2 : pF m l with
    | none => rfl
    | some q =>
      obtain ⟨f, r⟩ := q
      have := (pF_iff hn).2 ((pF_iff hm).1 h2)
      rw [h] at this; cases this
theorem txt_inj {f g : Fm} {r s : List UInt8} (hf : WfF f = true) (hg : WfF g = true) (h : txt f ++ r = txt g ++ s) : f = g ∧ r = s := by
  have h1 := pF_full f ((txt f).length + (txt g).length) r hf (by omega)
  have h2 := pF_full g ((txt f).length + (txt g).length) s hg (by omega)
  rw [h, h2] at h1
  injection h1 with h1
  injection h1 with a b
  exact ⟨a.symm, b.symm⟩
theorem txt_inj' {f g : Fm} (hf : WfF f = true) (hg : WfF g = true) (h : txt f = txt g) : f = g :=
  (txt_inj (r := []) (s := []) hf hg (by rw [h])).1
def pL (l : List UInt8) : Option (Fm × List UInt8) := pF l.length l
/-- The formula of a text. -/
def goodF (s : ByteArray) : Option Fm := if s.size ≤ 80 then (match pL s.data.toList with | some (f, []) => some f | _ => none) else none
theorem goodF_iff {s : ByteArray} {f : Fm} : goodF s = some f ↔ s.size ≤ 80 ∧ s.data.toList = txt f ∧ WfF f = true := by
  unfold goodF
  by_cases h : s.size ≤ 80
  · rw [if_pos h]
    constructor
    · intro hg
      split at hg
      · rename_i g he
        injection hg with hg
        subst hg
        have := (pF_iff (Nat.le_refl _)).1 he
        exact ⟨h, by simpa using this.1, this.2⟩
      · cases hg
    · rintro ⟨_, h1, h2⟩
      have : pL s.data.toList = some (f, []) := (pF_iff (Nat.le_refl _)).2 ⟨by simpa using h1, h2⟩
      rw [this]
  · rw [if_neg h]
    constructor
    · intro hg; cases hg
    · rintro ⟨h1, _⟩; exact absurd h1 h
def strF (f : Fm) : ByteArray := ⟨(txt f).toArray⟩
theorem strF_list (f : Fm) : (strF f).data.toList = txt f := by simp [strF]
theorem strF_size (f : Fm) : (strF f).size = (txt f).length := by simp [strF, ByteArray.size]
theorem strF_of {s : ByteArray} {f : Fm} (h : s.data.toList = txt f) : s = strF f := by
  obtain ⟨⟨l⟩⟩ := s
  have h : l = txt f := h
  rw [h]; rfl
/-- The value for bits. -/
def bitF (b i : Nat) : Bool := b / 2 ^ i % 2 == 1
def valF (b : Nat) : Fm → Bool
  | .leaf c => if c = 48 then false else if c = 49 then true else bitF b (c.toNat - 97)
  | .neg a => !valF b a
  | .bin o x y => if o = 38 then valF b x && valF b y else if o = 124 then valF b x || valF b y else !valF b x || valF b y
end Go.Proofs.YtapgpjhogdmjbaaDoor
