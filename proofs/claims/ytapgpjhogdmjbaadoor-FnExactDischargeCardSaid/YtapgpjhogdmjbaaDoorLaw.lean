/-
  The laws' helpers under uniform names, as the printed law walks use them: numbers, bools, lists of numbers. Conditions: sizes up to 2^20.
-/
import Derived.Test.YtapgpjhogdmjbaaDoorHelp
namespace Go.Proofs.YtapgpjhogdmjbaaDoor
open Go.RowKit

theorem rx_q' {w : World} {v : Value} {e : Ending} {w' : World} (h : RetQ w v e w') : RetX w v e w' := ⟨h.1, by obtain ⟨n, rfl⟩ := h.2; exact ext_drewN _ _⟩
theorem rx_r {w : World} {v : Value} {e : Ending} {w' : World} (h : Ret w v e w') : RetX w v e w' := ⟨h.1, by rw [h.2]; exact Ext.refl _⟩
theorem touch_ext {w0 w w' : World} {lo hi : Nat} (h : Ext w0 w) (ht : Touch lo hi w w') (hl : w0.heap.size ≤ lo) : Ext w0 w' := ht.below h hl h.size
theorem touch_blk' {w w' : World} {lo hi b : Nat} {o : Obj} (ht : Touch lo hi w w') (h : w.heap[b]? = some o) (hb : b < lo ∨ hi ≤ b) : w'.heap[b]? = some o := (ht.block b (Array.getElem?_eq_some_iff.1 h).1 hb).trans h
theorem own_lt {w : World} {base : Nat} {e : TypeId} {s n : Nat} {v : Value} {cs : List Value} (h : Own w base e s v n cs) : ∀ b, v.ownBlock = some b → b < w.heap.size := fun b hb => (own_blocks h b hb).2

theorem ownI_emp' {W : World} {base b : Nat} {e : TypeId} (hb : W.heap.size = b) (h : base ≤ b) : OwnI (W.alloc (.cells #[] e)) base e (.slice (some ⟨b, 0, none⟩) 0 0) [] := by
  subst hb
  exact own_lit W base e 1 #[] 0 h (Nat.zero_le _) rfl
/-! ### []int -/
def I64_IntS (xs : List Int) : Prop := ∀ x ∈ xs, I64 x
def I64_BoolS (_ : List Bool) : Prop := True
def I64_IntSS (xss : List (List Int)) : Prop := ∀ xs ∈ xss, ∀ x ∈ xs, I64 x
abbrev Rd_IntS := RdI
def Own_IntS (w : World) (lo hi : Nat) (v : Value) (xs : List Int) : Prop := OwnI w lo 3 v xs ∧ ∀ b, v.ownBlock = some b → b < hi
def Bd_IntS (xs : List Int) : Prop := xs.length ≤ 1048576
def len_IntS (xs : List Int) : Nat := xs.length
def sz_IntS (xs : List Int) (left : Int) : Int := szI xs.length left
def Mk_IntS (w : World) (v : Value) (xs : List Int) (k0 : Int) : Prop := RdI w v (seqI k0 xs.length)
section
variable {w w' : World} {lo hi : Nat} {v : Value} {xs : List Int} {k0 : Int}
theorem Own_IntS.ext (h : Own_IntS w lo hi v xs) (he : Ext w w') : Own_IntS w' lo hi v xs := ⟨h.1.ext he, h.2⟩
theorem Own_IntS.rd (h : Own_IntS w lo hi v xs) : RdI w v xs := h.1.rd
theorem Own_IntS.mk (h : OwnI w lo 3 v xs) : Own_IntS w lo w.heap.size v xs := ⟨h, own_lt h⟩
theorem Own_IntS.touch {lo' hi' : Nat} (h : Own_IntS w lo hi v xs) (ht : Touch lo' hi' w w') (hd : hi ≤ lo' ∨ hi' ≤ lo) : Own_IntS w' lo hi v xs :=
  ⟨own_touch h.1 ht fun b hb => by have := h.2 b hb; have := (own_blocks h.1 b hb).1; omega, h.2⟩
theorem Mk_IntS.ext (h : Mk_IntS w v xs k0) (he : Ext w w') : Mk_IntS w' v xs k0 := RdI.ext h he
theorem sz_IntS_bd (xs : List Int) (left : Int) (h : left ≤ 1048576) : -1 ≤ sz_IntS xs left ∧ sz_IntS xs left ≤ 1048576 := szI_bd _ _ h
theorem sz_IntS_ok {xs : List Int} {left : Int} (h : ¬ sz_IntS xs left < 0) (hl : left ≤ 1048576) : Bd_IntS xs := by
  unfold sz_IntS szI at h; unfold Bd_IntS; split at h <;> omega
theorem len_IntS_bd {xs : List Int} (h : Bd_IntS xs) : len_IntS xs ≤ 100000000 := by unfold len_IntS; unfold Bd_IntS at h; omega
end
/-- A call returns a new slice of the numbers xs and b, in blocks of its own. -/
def RetL2 (w : World) (xs : List Int) (b : Bool) : Ending → World → Prop := fun en w' => ∃ u, en = .returned (.tuple #[u, .bool b]) ∧ Own_IntS w' w.heap.size w'.heap.size u xs ∧ Ext w w'
theorem RetL2.mk {w w' : World} {xs : List Int} {b b' : Bool} {v : Value} (hb : b' = b) (h : OwnI w' w.heap.size 3 v xs) (hx : Ext w w') : RetL2 w xs b (.returned (.tuple #[v, .bool b'])) w' := ⟨v, by rw [hb], .mk h, hx⟩
/-! ### []bool -/
abbrev Rd_BoolS := RdB
def Own_BoolS (w : World) (lo hi : Nat) (v : Value) (xs : List Bool) : Prop := OwnB w lo 4 v xs ∧ ∀ b, v.ownBlock = some b → b < hi
def Bd_BoolS (xs : List Bool) : Prop := xs.length ≤ 1048576
def len_BoolS (xs : List Bool) : Nat := xs.length
def Mk_BoolS (w : World) (v : Value) (xs : List Bool) (k0 : Int) : Prop := RdB w v (seqB k0 xs.length)
section
variable {w w' : World} {lo hi : Nat} {v : Value} {xs : List Bool} {k0 : Int}
theorem Own_BoolS.ext (h : Own_BoolS w lo hi v xs) (he : Ext w w') : Own_BoolS w' lo hi v xs := ⟨h.1.ext he, h.2⟩
theorem Own_BoolS.rd (h : Own_BoolS w lo hi v xs) : RdB w v xs := h.1.rd
theorem Own_BoolS.mk (h : OwnB w lo 4 v xs) : Own_BoolS w lo w.heap.size v xs := ⟨h, own_lt h⟩
theorem Own_BoolS.touch {lo' hi' : Nat} (h : Own_BoolS w lo hi v xs) (ht : Touch lo' hi' w w') (hd : hi ≤ lo' ∨ hi' ≤ lo) : Own_BoolS w' lo hi v xs :=
  ⟨own_touch h.1 ht fun b hb => by have := h.2 b hb; have := (own_blocks h.1 b hb).1; omega, h.2⟩
theorem Mk_BoolS.ext (h : Mk_BoolS w v xs k0) (he : Ext w w') : Mk_BoolS w' v xs k0 := RdB.ext h he
theorem len_BoolS_bd {xs : List Bool} (h : Bd_BoolS xs) : len_BoolS xs ≤ 100000000 := by unfold len_BoolS; unfold Bd_BoolS at h; omega
end
end Go.Proofs.YtapgpjhogdmjbaaDoor
