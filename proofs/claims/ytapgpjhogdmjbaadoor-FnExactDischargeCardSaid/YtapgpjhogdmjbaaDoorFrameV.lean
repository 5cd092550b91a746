/-
  What a law's last step wants where the row lists a package variable: the table of schemes as the row lays it, and the post with variables. No condition.
-/
import Derived.Test.YtapgpjhogdmjbaaDoorFrame
import Derived.Test.YtapgpjhogdmjbaaDoorCas2
import Derived.Test.YtapgpjhogdmjbaaDoorRows
import Derived.ProofKit
import Derived.LaidMore
import Derived.OpenShut
import Derived.OpenVars
import Derived.ChangeVars
import Derived.Stop.Joined
namespace Go.Proofs.YtapgpjhogdmjbaaDoor
open Go.RowKit Go.ChangeShapes Go.WideShapes Go.ChangeAt Go.Deep Go.Joins Go.WideElems
section
variable {H : Type} {enc : TypeId × Value → H} {P : Program}
theorem law_postV {f : Func} {s : ChangeSpec} {W W' : World} {args : Array Value} {ds gs : List (DataW H)} {before : List MemPlace} {tb : TypeId}
    (hW : DataW.Whole enc P f.params.toList s.vars false W args.toList ds gs before) (hfn : s.fn H (ds ++ gs) = { results := [.lit (.bool true)], args := ds, vars := gs }) (hb : Below W.heap.size W W')
    (hl : laidOutB P = true) (hv : varsRowed P s.vars = true) (hr : (f.params.toList.all fun t => P.readableRec t && decide (t < P.types.size)) = true) (hres : f.resultTypes = #[tb]) (htb : P.underlying tb = some .bool) :
    s.post enc P f false true false false W args (.bool true) W' := by
  have hlt : ∀ x ∈ before, x.block < W.heap.size := fun x hx => hW.lt x hx
  have hW' := hW
  obtain ⟨p, q, hA, hV, hpq, _, _⟩ := hW'
  subst hpq
  refine ⟨ds, gs, p ++ q, [], p, q, hW, ?_, ?_, ?_, hb.frame _, fun h => by cases h⟩
  · rw [hfn, hres]
    exact trodAll_mk1 (shut_bool htb true)
  · rw [hfn]
    exact trodAll_stays hl hb _ _ _ _ hr hA (fun x hx => hlt x (List.mem_append_left _ hx))
  · rw [hfn]
    exact Below.trodVars hl hb hv hV
end
abbrev laidS {H : Type} : List (String × DataW H) := [("loop.example/g01080/impl.schemes", Rows.laid_loop_example_g01080_impl_schemes)]
theorem gSch : Tryd.prog.globalNamed "loop.example/g01080/impl.schemes" = some 0 := by kernel_rfl
theorem tSch : (Tryd.prog.globals[0]?).map (·.type) = some 67 := by kernel_rfl
set_option maxRecDepth 100000 in
theorem of_laid {W : World} (h : laidMetH Tryd.prog laidS W) : GlobS W := by
  rw [MakeChecks.laidMetH_plain _ _ _ (by kernel_rfl)] at h
  obtain ⟨ps, ⟨g0, t0, cs0, f0, p0, q0, hg0, ht0, hv0, hd0, _, _⟩, _, _⟩ := h
  obtain rfl := Option.some.inj (gSch.symm.trans hg0)
  obtain rfl := Option.some.inj (tSch.symm.trans ht0)
  obtain ⟨xs, m, rfl, hx, hlen, hn, hel⟩ := DataW.trod_array Tryd.underlying67 hd0
  have c9 : Tryd.prog.cellsOf 9 = 1 := by kernel_rfl
  rw [c9] at hel
  intro j hj
  have hxj := hel j hj
  have hjx : j < xs.length := by omega
  rw [List.getElem?_eq_getElem hjx] at hxj
  obtain ⟨s, hs, hx2, -⟩ := DataW.trod_string Tryd.underlying9 hxj
  have hd1 : (xs.map (·.1))[j]? = some (.lit (.string (txt (schT (j + 1))))) := by
    have e1 : xs.map (·.1) = _ := (DataW.agg.inj (Prod.mk.inj hx).1).symm
    rw [e1]
    have hj10 : j = 0 ∨ j = 1 ∨ j = 2 ∨ j = 3 ∨ j = 4 ∨ j = 5 ∨ j = 6 ∨ j = 7 ∨ j = 8 ∨ j = 9 := by omega
    rcases hj10 with rfl | rfl | rfl | rfl | rfl | rfl | rfl | rfl | rfl | rfl <;> rfl
  rw [List.getElem?_map, List.getElem?_eq_getElem hjx, hx2] at hd1
  have hst : s.data.toList = txt (schT (j + 1)) := by simpa using hd1
  have hse : s = schS (j + 1) := strF_of hst
  have hc := World.var?_cell hg0 hv0 j
  have hcj : cs0[j]? = some (.string s) := by
    rw [Nat.mul_one] at hs
    have h2 := congrArg (fun l => l[0]?) hs
    simp only [List.getElem?_take, List.getElem?_drop] at h2
    simpa using h2
  rw [hcj, hse] at hc
  simpa using hc
end Go.Proofs.YtapgpjhogdmjbaaDoor
