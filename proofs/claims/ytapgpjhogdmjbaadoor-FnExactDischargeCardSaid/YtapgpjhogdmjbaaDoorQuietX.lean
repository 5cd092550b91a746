/-
  A region that draws its order, whose operations only read and whose callees may lay blocks of their own: walked once. No condition.
-/
import Derived.Test.YtapgpjhogdmjbaaDoorBase
import Derived.Deep.QuietTactic
namespace Go.Proofs.YtapgpjhogdmjbaaDoor
open Go.RowKit
/-- A world that extends w. -/
structure ExtOf (w : World) where
  v : World
  h : Ext w v
instance (w : World) : Nonempty (ExtOf w) := ⟨⟨w, Ext.refl w⟩⟩
theorem wp_region_quiet_ext {P : Program} {id : Nat} {Q : Exit → Act → World → Prop} {a : Act} {w : World} {l : List Oper} (hm : P.follows .mixedOrders = true) (hB : Region.lexB .any l.toArray = true)
    (h : wpQuiet P l.toArray (fun w' => ∃ p : ExtOf w, w' = p.v) (fun a' => ∀ w', (∃ p : ExtOf w, w' = p.v) → Q .normal a' w') l a) : (Code.region id l.toArray true).wp P Q a w :=
  wp_region_quiet (C := fun w' => ∃ p : ExtOf w, w' = p.v) hm hB ⟨⟨w.drew, (Ext.refl w).drew⟩, rfl⟩ (by simpa using h)
theorem ext_call {P : Program} {f : FuncId} {args : Array Value} {w : World} {p : ExtOf w} {v : Value} (h : Calls P f args p.v (RetX p.v v)) : Calls P f args p.v fun e w' => e = .returned v ∧ ∃ p : ExtOf w, w' = p.v :=
  h.mono fun _ w' ⟨he, hx⟩ => ⟨he, ⟨w', p.h.trans hx⟩, rfl⟩
end Go.Proofs.YtapgpjhogdmjbaaDoor
