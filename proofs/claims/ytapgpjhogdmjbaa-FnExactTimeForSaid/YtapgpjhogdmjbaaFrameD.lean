/-
  How the arguments' readings are opened: graphs. No condition.
-/
import Derived.Test.YtapgpjhogdmjbaaFrame
import Derived.Test.YtapgpjhogdmjbaaDagK
namespace Go.Proofs.Ytapgpjhogdmjbaa
open Go.RowKit Go.ChangeShapes Go.WideShapes Go.ChangeAt Go.Deep Go.Joins
theorem blk1 {w : World} {b : Nat} {x : Value} {e : TypeId} {fr : Nat × Nat} (h : w.heap[b]? = some (.cells #[x] e fr)) : w.cell? ⟨b, 0, none⟩ = some x := cell_ofD h
section
variable {H : Type} {enc : TypeId × Value → H} {W : World} {b0 : Nat} {r : Reach} {base : Nat} {spare : Nat → Bool} {held : Bool}
theorem array1D {α : Type} {cs : Array α} (h : cs.size = 1) : ∃ c0, cs = #[c0] := by
  obtain ⟨l⟩ := cs
  match l, h with
  | [c0], _ => exact ⟨c0, rfl⟩
theorem open_agg1D {P : Program} {t : TypeId} {f0 : Field} {v : Value} {d : DataW H} {p : List MemPlace} (hs : P.underlying t = some (.struct #[f0])) (hone : oneCellFields P #[f0] = true) (hC : P.cellsOf t = 1)
    (hv : Value.okWide P W r b0 t v) (h : DataW.Trod enc P W base spare held t v d p) :
    ∃ (v0 : Value) (y0 : DataW H × List MemPlace) (n : Nat), v = .agg #[v0] ∧ DataW.trod enc P W base spare held n f0.type [v0] = some y0 := by
  obtain ⟨cs, rfl, hsz⟩ := okWide_struct hs hv
  obtain ⟨c0, rfl⟩ := array1D (hsz.trans hC)
  obtain ⟨fuel, hf⟩ := h
  obtain ⟨y0, n, _, _, h0⟩ := trod_struct1 hs hf
  obtain ⟨o0, k0⟩ := hone_of hone 0 f0 rfl
  exact ⟨c0, y0, n, rfl, by simpa [Value.cells, o0, k0] using h0⟩
set_option maxRecDepth 100000 in
theorem open_dag {v : Value} {d : DataW H} {p : List MemPlace} (hv : Value.okWide Try.prog W r b0 24 v) (h : DataW.Trod enc Try.prog W base spare held 24 v d p) :
    ∃ f, Rd_Dag W v f ∧ I64_Dag f := by
  obtain ⟨v0, y0, n, rfl, h0⟩ := open_agg1D Try.underlying24 (by kernel_rfl) (by kernel_rfl) hv h
  obtain ⟨cs, hcs, hb⟩ := read_intss Try.underlying22 Try.underlying44 Try.underlying3 (by kernel_rfl) (by kernel_rfl) h0
  exact ⟨cs, ⟨_, rfl, hcs⟩, hb⟩
end
end Go.Proofs.Ytapgpjhogdmjbaa
