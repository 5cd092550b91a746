/-
  FirstBrokenSide of both sides. Conditions: sizes up to 2^20.
-/
import Derived.Test.YtjeeffmpfdhppaaBrokI
namespace Go.Proofs.Ytjeeffmpfdhppaa
open Go.RowKit
/-! ### FirstBrokenSide -/
def circAskB (f : Cnf) (k : Int) (gs : List Gat) : Bool := askB f k && circB f.n gs
def firstBrk (f : Cnf) (k : Int) (gs : List Gat) : Int := if circAskB f k gs then (if brkN f k.toNat gs < 0 then 0 else brkN f k.toNat gs) else 0
def firstBrkB (f : Cnf) (k : Int) (gs : List Gat) : Bool := circAskB f k gs && !decide (brkN f k.toNat gs < 0)
end Go.Proofs.Ytjeeffmpfdhppaa
