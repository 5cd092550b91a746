/-
  Formulas in conjunctive normal form as values: the words, and the laws' own helpers on them. Conditions: sizes up to 2^20.
-/
import Derived.Test.YtapgpjhogdmjbaaLaw
import Derived.Test.YtapgpjhogdmjbaaPair
namespace Go.Proofs.Ytapgpjhogdmjbaa
open Go.RowKit

theorem OwnSS.lo_le {w : World} {lo hi lo' : Nat} {eS eI : TypeId} {v : Value} {xss : List (List Int)} (h : OwnSS w lo hi eS eI v xss) (hh : lo' ≤ lo) : OwnSS w lo' hi eS eI v xss := by
  obtain ⟨vs, h1, h2, h3⟩ := h
  exact ⟨vs, own_rebase h1 hh, h2, h3.1, fun i u xs a b => ⟨own_rebase (h3.2.1 i u xs a b).1 hh, (h3.2.1 i u xs a b).2⟩, h3.2.2⟩
structure Cnf where
  n : Int
  cs : List (List Int)
def Rd_Cnf (w : World) (v : Value) (f : Cnf) : Prop := ∃ vc, v = .agg #[.int .i64 f.n, vc] ∧ RdSS w vc f.cs
def I64_Cnf (f : Cnf) : Prop := I64 f.n ∧ I64_IntSS f.cs
def Own_Cnf (w : World) (lo hi : Nat) (v : Value) (f : Cnf) : Prop := ∃ vc, v = .agg #[.int .i64 f.n, vc] ∧ OwnSS w lo hi 44 3 vc f.cs
def Bd_Cnf (f : Cnf) : Prop := Bd_IntSS f.cs
def len_Cnf (f : Cnf) : Nat := len_IntSS f.cs
def sz_Cnf (f : Cnf) (left : Int) : Int := szII f.cs left
def Mk_Cnf (w : World) (v : Value) (f : Cnf) (k0 : Int) : Prop := ∃ vc, v = .agg #[.int .i64 f.n, vc] ∧ RdSS w vc (seqII k0 (lens f.cs))
section
variable {w w' : World} {lo hi : Nat} {v : Value} {f : Cnf} {k0 : Int}
theorem Rd_Cnf.ext (h : Rd_Cnf w v f) (he : Ext w w') : Rd_Cnf w' v f := by
  obtain ⟨vc, h1, h2⟩ := h
  exact ⟨vc, h1, h2.ext he⟩
theorem Rd_Cnf.form (h : Rd_Cnf w v f) : ∃ A c, v = .agg #[.int .i64 f.n, .slice A f.cs.length c] := by
  obtain ⟨vc, rfl, h2⟩ := h
  obtain ⟨A, c, rfl, _⟩ := h2.form
  exact ⟨A, c, rfl⟩
theorem Own_Cnf.ext (h : Own_Cnf w lo hi v f) (he : Ext w w') : Own_Cnf w' lo hi v f := by
  obtain ⟨vc, h1, h2⟩ := h
  exact ⟨vc, h1, h2.ext he⟩
theorem Own_Cnf.rd (h : Own_Cnf w lo hi v f) : Rd_Cnf w v f := by
  obtain ⟨vc, h1, h2⟩ := h
  exact ⟨vc, h1, h2.rd⟩
theorem Own_Cnf.touch {lo' hi' : Nat} (h : Own_Cnf w lo hi v f) (ht : Touch lo' hi' w w') (hd : hi ≤ lo' ∨ hi' ≤ lo) : Own_Cnf w' lo hi v f := by
  obtain ⟨vc, h1, h2⟩ := h
  exact ⟨vc, h1, h2.touch ht hd⟩
theorem Own_Cnf.form (h : Own_Cnf w lo hi v f) : ∃ A c, v = .agg #[.int .i64 f.n, .slice A f.cs.length c] ∧ Hid (Own_Cnf w lo hi (.agg #[.int .i64 f.n, .slice A f.cs.length c]) f) := by
  have h' := h
  obtain ⟨vc, rfl, h2⟩ := h'
  obtain ⟨A, c, rfl, _⟩ := h2.form
  exact ⟨A, c, rfl, hd h⟩
theorem Mk_Cnf.ext (h : Mk_Cnf w v f k0) (he : Ext w w') : Mk_Cnf w' v f k0 := by
  obtain ⟨vc, h1, h2⟩ := h
  exact ⟨vc, h1, h2.ext he⟩
theorem sz_Cnf_bd (f : Cnf) (left : Int) (h : left ≤ 1048576) : -1 ≤ sz_Cnf f left ∧ sz_Cnf f left ≤ 1048576 := szII_bd _ _ h
theorem sz_Cnf_ok {f : Cnf} {left : Int} (h : ¬ sz_Cnf f left < 0) (hl : left ≤ 1048576) : Bd_Cnf f := sz_IntSS_ok h hl
theorem len_Cnf_bd {f : Cnf} (h : Bd_Cnf f) : len_Cnf f ≤ 100000000 := len_IntSS_bd h
end
end Go.Proofs.Ytapgpjhogdmjbaa
