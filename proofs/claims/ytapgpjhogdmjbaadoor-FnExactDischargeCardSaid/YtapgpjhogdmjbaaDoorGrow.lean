/-
  Small words on worlds that extend one another. No condition.
-/
import Derived.Test.YtapgpjhogdmjbaaDoorBase
namespace Go.Proofs.YtapgpjhogdmjbaaDoor
open Go.RowKit
theorem grown_ext {w w' : World} (h : Ext w w') (row : Option Nat) : w.grownBy w' row := ⟨h.os, h.tape, h.output, h.size, fun k hk _ => h.block k hk⟩
theorem rd_blk {w : World} {b s m : Nat} {us : List Value} {cs : Array Value} {e : TypeId} (h : w.heap[b]? = some (.cells cs e)) (hc : cs.toList = us) (hl : us.length = m * s) (hm : m ≤ maxLen) : Rd w s (.slice (some ⟨b, 0, none⟩) m m) m us := by
  refine ⟨hl, some ⟨b, 0, none⟩, m, rfl, Nat.le_refl _, hm, fun j x hx => ⟨_, rfl, ?_⟩⟩
  refine World.news_of_block h j x ?_
  rw [hc]; exact hx
end Go.Proofs.YtapgpjhogdmjbaaDoor
