/-
  append of a record that lies in a block of its own. Conditions: lengths up to 2^20.
-/
import Derived.Test.YtbeiblpikdcoeaaRec
import Derived.Test.YtbeiblpikdcoeaaApp2
namespace Go.Proofs.Ytbeiblpikdcoeaa
open Go.RowKit
theorem recCells_append : ∀ (rs ts : List Rec), recCells (rs ++ ts) = recCells rs ++ recCells ts
  | [], _ => rfl
  | r :: rs, ts => by simp [recCells, recCells_append rs ts]
theorem recCells_one : ∀ (rs : List Rec), ∀ u ∈ recCells rs, u.oneCell' = true
  | [], u, h => by simp [recCells] at h
  | r :: rs, u, h => by
    simp only [recCells, List.mem_cons] at h
    rcases h with rfl | rfl | rfl | rfl | h
    · rfl
    · rfl
    · rfl
    · rfl
    · exact recCells_one rs u h
theorem rd_blk {w : World} {b s m : Nat} {us : List Value} {cs : Array Value} {e : TypeId} (h : w.heap[b]? = some (.cells cs e)) (hc : cs.toList = us) (hl : us.length = m * s) (hm : m ≤ maxLen) : Rd w s (.slice (some ⟨b, 0, none⟩) m m) m us := by
  refine ⟨hl, some ⟨b, 0, none⟩, m, rfl, Nat.le_refl _, hm, fun j x hx => ⟨_, rfl, ?_⟩⟩
  refine World.news_of_block h j x ?_
  rw [hc]; exact hx
section
variable {ops : Array Oper} {rest : List Oper} {o : Oper} {a : Act} {Q : Exit → Act → World → Prop}
theorem appR (w : World) {nb : Nat} {v : Value} {rs : List Rec} {base : Nat} (r : Rec) (hown : Own w base 106 4 v rs.length (recCells rs)) (hgd : o.guard = none) (s x : Operand)
    (ho : o.op = .call { callee := .builtin .append, args := #[s, x], argTypes := #[56, 56] })
    (hs : a.eval s = v) (hx : a.eval x = .slice (some ⟨nb, 0, none⟩) 1 1) (hnb : w.heap.size = nb) (hn : rs.length + 1 ≤ 536870912) (hbase : base ≤ w.heap.size)
    (h : ∀ v' w', Own w' base 106 4 v' (rs ++ [r]).length (recCells (rs ++ [r])) → (w.alloc (.cells #[.string r.name, .int .i64 r.sys, .int .i64 r.size, .int .i64 r.extra] 106)).grownBy w' v.ownBlock → (v'.ownBlock = v.ownBlock ∨ v'.ownBlock = some (w.heap.size + 1)) → wpList Try.prog ops Q rest (a.put o.dst v') w') :
    wpList Try.prog ops Q (o :: rest) a (w.alloc (.cells #[.string r.name, .int .i64 r.sys, .int .i64 r.size, .int .i64 r.extra] 106)) := by
  subst hnb
  refine wpList_plain hgd fun K hK => wp_app _ s x 56 ho base 106 Try.underlying56 info_record (by decide) rfl (by decide) (own_ext hown (Ext.new w _)) (rd_blk (s := 4) (us := recCells [r]) (blk_new _ rfl) rfl rfl (by unfold maxLen; omega)) (recCells_one _) hs hx (by omega) (by simp; omega) fun v' w' h1 h2 h3 => hK _ _ (h v' w' ?_ h2 (by simpa using h3))
  rw [recCells_append, List.length_append]
  exact h1
end
end Go.Proofs.Ytbeiblpikdcoeaa
