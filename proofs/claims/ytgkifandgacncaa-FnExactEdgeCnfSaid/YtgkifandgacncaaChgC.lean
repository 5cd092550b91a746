/-
  Chapter 27: CycleGraph and LadderGraph of both sides. No condition.
-/
import Derived.Test.YtgkifandgacncaaChgH
import Derived.Test.YtgkifandgacncaaApp2
namespace Go.Proofs.Ytgkifandgacncaa
open Go.RowKit

section
variable {ops : Array Oper} {rest : List Oper} {o : Oper} {a : Act} {Q : Exit → Act → World → Prop}
theorem rdN_blk {w : World} {b : Nat} {s m : Nat} {xs : List Int} {cs : Array Value} {e : TypeId} (h : w.heap[b]? = some (.cells cs e)) (hc : cs.toList = ints xs) (hl : xs.length = m * s) (hm : m ≤ maxLen) : RdN w s (.slice (some ⟨b, 0, none⟩) m m) m xs := by
  refine ⟨by simpa using hl, some ⟨b, 0, none⟩, m, rfl, Nat.le_refl _, hm, fun j x hx => ⟨_, rfl, ?_⟩⟩
  refine World.news_of_block h j x ?_
  rw [hc]; exact hx
/-- append of pairs that lie in a block of their own. -/
theorem appPs (w : World) {nb m : Nat} {v : Value} {es fs : List (Int × Int)} {cs : Array Value} {base : Nat} (hown : OwnP w base 73 v es) (hgd : o.guard = none) (s x : Operand)
    (ho : o.op = .call { callee := .builtin .append, args := #[s, x], argTypes := #[22, 22] })
    (hs : a.eval s = v) (hx : a.eval x = .slice (some ⟨nb, 0, none⟩) m m) (hnb : w.heap.size = nb) (hcs : cs.toList = ints (flat2 fs)) (hm : fs.length = m) (hn : es.length + m ≤ 536870912) (hbase : base ≤ w.heap.size)
    (h : ∀ v' w', OwnP w' base 73 v' (es ++ fs) → (w.alloc (.cells cs 73)).grownBy w' v.ownBlock → wpList Try.prog ops Q rest (a.put o.dst v') w') :
    wpList Try.prog ops Q (o :: rest) a (w.alloc (.cells cs 73)) := by
  subst hnb
  subst hm
  refine wpList_plain hgd fun K hK => wp_app _ s x 22 ho base 73 Try.underlying22 info_pair (by decide) rfl (by decide) (own_ext hown (Ext.new w _)) (rdN_blk (s := 2) (xs := flat2 fs) (blk_new _ rfl) hcs (by simp) (by unfold maxLen; omega)) (ints_one _) hs hx (by omega) (by simp; omega) fun v' w' h1 h2 _ => hK _ _ (h v' w' ?_ h2)
  unfold OwnP OwnN
  rw [flat2_append, ints_append, List.length_append]
  exact h1
end
theorem made1 (n : Nat) : (madeCells (Value.int .i64 0).cells (n * 1)).toList = ints (List.replicate n 0) := by
  apply List.ext_getElem
  · simp [madeCells]
  intro j h1 h2
  simp only [ints, madeCells, Array.toList_map, Array.toList_range, List.getElem_map, List.getElem_range, List.getElem_replicate]
  simp [Value.cells, Nat.mod_one]
/-- make([]int, n). -/
theorem mkI {ops : Array Oper} {rest : List Oper} {o : Oper} {a : Act} {Q : Exit → Act → World → Prop} (w : World) {nb n : Nat} (hgd : o.guard = none) (l c : Operand) (hop : o.op = .makeSlice 23 l c) (hl : a.eval l = .int .i64 n) (hc : a.eval c = .int .i64 n) (hn : n ≤ 1073741824) (hnb : w.heap.size = nb)
    (h : ∀ w', OwnI w' nb 3 (.slice (some ⟨nb, 0, none⟩) n n) (List.replicate n 0) → Ext w w' → wpList Try.prog ops Q rest (a.put o.dst (.slice (some ⟨nb, 0, none⟩) n n)) w') :
    wpList Try.prog ops Q (o :: rest) a w := by
  subst hnb
  obtain ⟨i0, hi, hz0, hz1, hz2⟩ := info_parts info_int
  refine wpList_make_full _ hgd l c 23 hop w.heap.size 3 i0 (.int .i64 0) 1 Try.underlying23 hi hz0 hz1 _ _ _ _ n hl hc rfl rfl (by rw [hz2]; omega) (by unfold maxLen; omega) (Nat.le_refl _) fun w1 hown1 hgrow1 => h w1 ?_ ((Ext.refl w).grown hgrow1 (Nat.le_refl _) (by simp))
  rw [made1] at hown1
  unfold OwnI
  rw [List.length_replicate]
  exact hown1
theorem ownI_store {w : World} {base : Nat} {e : TypeId} {g n cap : Nat} {xs : List Int} (h : OwnI w base e (.slice (some ⟨g, 0, none⟩) n cap) xs) (hn : xs.length = n) {k : Nat} (hk : k < n) :
    (∃ u0, w.cell? ⟨g, k, none⟩ = some u0) ∧ w.frozen? ⟨g, k, none⟩ = false ∧ Hid (∀ x, OwnI (w.setCell ⟨g, k, none⟩ (.int .i64 x)) base e (.slice (some ⟨g, 0, none⟩) n cap) (xs.set k x)) := by
  subst hn
  obtain ⟨h1, h2, h3⟩ := own_store h hk
  refine ⟨h1, h2, hd fun x => ?_⟩
  have := h3.out (.int .i64 x)
  unfold OwnI
  rw [← ints_set, List.length_set]
  exact this
theorem touch_b3 (W : World) (b : Nat) (u0 u1 u2 : Value) : Touch b (b + 1) W (((W.setCell ⟨b, 0, none⟩ u0).setCell ⟨b, 1, none⟩ u1).setCell ⟨b, 2, none⟩ u2) := by
  refine Touch.setCell (Touch.setCell (Touch.setCell (Touch.refl _ _ _) ?_ ?_ _) ?_ ?_ _) ?_ ?_ _ <;> simp
theorem ext_b3 {w0 W : World} {b : Nat} {u0 u1 u2 : Value} (h : Ext w0 W) (hb : w0.heap.size ≤ b) : Ext w0 (((W.setCell ⟨b, 0, none⟩ u0).setCell ⟨b, 1, none⟩ u1).setCell ⟨b, 2, none⟩ u2) := by
  refine Below.setCell (Below.setCell (Below.setCell h ?_ _) ?_ _) ?_ _ <;> exact hb
theorem ext_b1 {w0 W : World} {b k : Nat} {u : Value} (h : Ext w0 W) (hb : w0.heap.size ≤ b) : Ext w0 (W.setCell ⟨b, k, none⟩ u) := Below.setCell h hb _
/-- The charges of a new graph. -/
def chgs (n : Nat) (odd : Bool) : List Int := if odd then (List.replicate n 0).set 0 1 else List.replicate n 0
@[simp] theorem length_chgs (n : Nat) (odd : Bool) : (chgs n odd).length = n := by unfold chgs; split <;> simp
/-- (0, 1), (1, 2), .. -/
def rngE (k : Nat) : List (Int × Int) := (List.range k).map fun j : Nat => ((j : Int), (j : Int) + 1)
theorem rngE_succ (k : Nat) : rngE (k + 1) = rngE k ++ [((k : Int), (k : Int) + 1)] := by simp [rngE, List.range_succ]
@[simp] theorem length_rngE (k : Nat) : (rngE k).length = k := by simp [rngE]
def cycG (n : Int) (odd : Bool) : Chg := if inB n 3 8 then ⟨n, rngE (n.toNat - 1) ++ [(0, n - 1)], chgs n.toNat odd⟩ else ⟨0, [], []⟩
/-- A call returns a new graph and b, and leaves all old memory alone. -/
def RetC2 (w : World) (g : Chg) (b : Bool) : Ending → World → Prop := fun en w' => ∃ v, en = .returned (.tuple #[v, .bool b]) ∧ OwnC w' w.heap.size w'.heap.size v g ∧ Ext w w'
theorem ext_appP {w wr w' : World} {v : Value} {o o' : Obj} {e : TypeId} {es : List (Int × Int)} (h : Ext (w.alloc o) wr) (hg : (wr.alloc o').grownBy w' v.ownBlock) (ho : OwnP wr (w.heap.size + 1) e v es) : Ext (w.alloc o) w' :=
  ext_app h hg fun g hg' => by have := (own_blocks ho g hg').1; simpa using this
theorem ownP_emp {W : World} {base b : Nat} {e : TypeId} (hb : W.heap.size = b) (h : base ≤ b) : OwnP (W.alloc (.cells #[] e)) base e (.slice (some ⟨b, 0, none⟩) 0 0) [] := by
  subst hb
  exact own_lit W base e 2 #[] 0 h (Nat.zero_le _) rfl
theorem ownC_zero {w : World} {lo hi : Nat} : OwnC w lo hi (.agg #[.int .i64 0, .slice none 0 0, .slice none 0 0]) ⟨0, [], []⟩ :=
  ⟨_, _, rfl, own_nil _ _ _ _, own_nil _ _ _ _, (fun b h => by cases h), (fun b h => by cases h)⟩
end Go.Proofs.Ytgkifandgacncaa
