/-
  append of a whole slice, nil or not, onto a slice of the call's own; the same at a step of a region that draws its order; slices.Clone. Conditions: lengths up to 2^30.
-/
import Derived.Test.YtapgpjhogdmjbaaDoorApp
import Derived.Lib.SliceRun
namespace Go.Proofs.YtapgpjhogdmjbaaDoor
open Go.RowKit

section
variable {P : Program} (w : World)
theorem run_app (base : Nat) (t ty e : TypeId) {z : Value} {size bytes : Nat} (ht : P.underlying t = some (.slice e)) (hinfo : (P.info? e).map (fun i => (i.zero, i.size, i.bytes)) = some (some z, size, bytes)) (hby : bytes ≤ 65536) (hzs : z.cells.size = size) (hsz : 0 < size)
    {v src : Value} {n m : Nat} {xs ys : List Value} (hown : Own w base e size v n xs) (hsrc : Rd w size src m ys) (h1 : ∀ u ∈ ys, u.oneCell' = true) (hn : n + m ≤ 2147483648) (hbase : base ≤ w.heap.size) :
    ∃ v' w', (Builtin.append_ #[t, t] ty #[v, src]).run P w = .ok v' w' ∧ Own w' base e size v' (n + m) (xs ++ ys) ∧ w.grownBy w' v.ownBlock ∧ (v'.ownBlock = v.ownBlock ∨ v'.ownBlock = some w.heap.size) := by
  obtain ⟨i, hi, hz, hz1, hz2⟩ := info_parts hinfo
  obtain ⟨hl, A, c, rfl, hmc, _, hc⟩ := hsrc
  have hb : (n + m) * bytes ≤ 140737488355328 := by
    have : (n + m) * bytes ≤ 2147483648 * 65536 := Nat.mul_le_mul hn hby
    omega
  cases A with
  | none =>
    have hm : m = 0 := by
      rcases Nat.eq_zero_or_pos m with h0 | h0
      · exact h0
      · have hlen : 0 < ys.length := by rw [hl]; exact Nat.mul_pos h0 hsz
        obtain ⟨a, ha, _⟩ := hc 0 ys[0] (List.getElem?_eq_getElem hlen)
        cases ha
    subst hm
    have hys : ys = [] := List.eq_nil_of_length_eq_zero (by simpa using hl)
    subst hys
    refine ⟨v, w, ?_, by simpa using hown, grown_refl _ _, .inl rfl⟩
    rcases hown.2 with ⟨rfl, rfl⟩ | ⟨g, cap, cur, rfl, _, _, hnc, _⟩
    · simp [Builtin.append_, run_underlying ht, sizeOf, typeInfo, hi, Builtin.lenOf, Builtin.firstCells]
    · simp [Builtin.append_, run_underlying ht, sizeOf, typeInfo, hi, Builtin.lenOf, Builtin.firstCells, hnc, storeCells]
  | some ad =>
    obtain ⟨v', w', hr, h2, h3, _, h5⟩ := run_append_own_at (P := P) w base t ty e i z size bytes ht hi hz hz1 hz2 hzs hsz v n xs hown ad m c ys hl
      (fun j u hu => by obtain ⟨a, ha, hcell⟩ := hc j u hu; injection ha with ha; subst ha; exact hcell) h1 (by unfold maxLen; omega) hb hbase
    exact ⟨v', w', hr, h2, h3, h5⟩
theorem wp_app {o : Oper} {a : Act} {K : Act → World → Prop} {Q : Exit → Act → World → Prop} (s x : Operand) (t : TypeId)
    (ho : o.op = .call { callee := .builtin .append, args := #[s, x], argTypes := #[t, t] }) (base : Nat) (e : TypeId) {z : Value} {size bytes : Nat} (ht : P.underlying t = some (.slice e)) (hinfo : (P.info? e).map (fun i => (i.zero, i.size, i.bytes)) = some (some z, size, bytes)) (hby : bytes ≤ 65536) (hzs : z.cells.size = size) (hsz : 0 < size)
    {v src : Value} {n m : Nat} {xs ys : List Value} (hown : Own w base e size v n xs) (hsrc : Rd w size src m ys) (h1 : ∀ u ∈ ys, u.oneCell' = true) (hs : a.eval s = v) (hx : a.eval x = src) (hn : n + m ≤ 2147483648) (hbase : base ≤ w.heap.size)
    (h : ∀ v' w', Own w' base e size v' (n + m) (xs ++ ys) → w.grownBy w' v.ownBlock → (v'.ownBlock = v.ownBlock ∨ v'.ownBlock = some w.heap.size) → K (a.put o.dst v') w') : o.wp P a w K Q := by
  obtain ⟨v', w', hr, h2, h3, h4⟩ := run_app (P := P) w base t o.type e ht hinfo hby hzs hsz hown hsrc h1 hn hbase
  unfold Oper.wp execOp
  simp only [ho, resolve, invoke, builtin, Sem.run_bind, Sem.run_pure, Result.andThen_ok, List.map_toArray, List.map_cons, List.map_nil, hs, hx, hr]
  exact h v' w' h2 h3 h4
end

theorem ints_one (xs : List Int) : ∀ u ∈ ints xs, u.oneCell' = true := by
  intro u hu
  obtain ⟨x, _, rfl⟩ := List.mem_map.1 hu
  rfl
theorem bools_one (xs : List Bool) : ∀ u ∈ bools xs, u.oneCell' = true := by
  intro u hu
  obtain ⟨x, _, rfl⟩ := List.mem_map.1 hu
  rfl
theorem ints_append (xs ys : List Int) : ints (xs ++ ys) = ints xs ++ ints ys := by simp [ints]
/-- The one element, in a block of its own. -/
theorem rdI_one {w W : World} {e : TypeId} {u : Int} (h : Ext (w.alloc (.cells #[.int .i64 u] e)) W) : RdI W (.slice (some ⟨w.heap.size, 0, none⟩) 1 1) [u] := by
  refine Rd.ext (s := 1) (n := 1) (cs := [.int .i64 u]) ⟨rfl, some ⟨w.heap.size, 0, none⟩, 1, rfl, Nat.le_refl _, by unfold maxLen; omega, fun j x hx => ⟨_, rfl, ?_⟩⟩ h
  exact cell_one_new w _ e j x hx
section
variable {w : World} {ops : Array Oper} {rest : List Oper} {o : Oper} {a : Act} {Q : Exit → Act → World → Prop}
/-- append(v, src...), numbers. -/
theorem appSI (w : World) {v src : Value} {xs ys : List Int} {base : Nat} (hown : OwnI w base 3 v xs) (hsrc : RdI w src ys) (hgd : o.guard = none) (s x : Operand)
    (ho : o.op = .call { callee := .builtin .append, args := #[s, x], argTypes := #[50, 50] })
    (hs : a.eval s = v) (hx : a.eval x = src) (hn : xs.length + ys.length ≤ 2147483648) (hbase : base ≤ w.heap.size)
    (h : ∀ v' w', OwnI w' base 3 v' (xs ++ ys) → w.grownBy w' v.ownBlock → (v'.ownBlock = v.ownBlock ∨ v'.ownBlock = some w.heap.size) → wpList Tryd.prog ops Q rest (a.put o.dst v') w') :
    wpList Tryd.prog ops Q (o :: rest) a w :=
  wpList_plain hgd fun K hK => wp_app w s x 50 ho base 3 Tryd.underlying50 info_int (by decide) rfl (by decide) hown hsrc (ints_one _) hs hx hn hbase fun v' w' h1 h2 h3 =>
    hK _ _ (h v' w' (by unfold OwnI; rw [ints_append, List.length_append]; exact h1) h2 h3)
/-- The same at a step of a region that draws its order. -/
theorem stepSI {K : Act → World → Prop} {E : Prop} (w : World) {v src : Value} {xs ys : List Int} {base : Nat} (hown : OwnI w base 3 v xs) (hsrc : RdI w src ys) (hgd : o.guard = none) (s x : Operand)
    (ho : o.op = .call { callee := .builtin .append, args := #[s, x], argTypes := #[50, 50] })
    (hs : a.eval s = v) (hx : a.eval x = src) (hn : xs.length + ys.length ≤ 2147483648) (hbase : base ≤ w.heap.size)
    (h : ∀ v' w', OwnI w' base 3 v' (xs ++ ys) → w.grownBy w' v.ownBlock → (v'.ownBlock = v.ownBlock ∨ v'.ownBlock = some w.heap.size) → K (a.put o.dst v') w') :
    if Region.wanted o (yielded ops a.tmps) = true then Oper.wp Tryd.prog o a w K Q else E := by
  have hw : Region.wanted o (yielded ops a.tmps) = true := by simp [Region.wanted, hgd]
  rw [if_pos hw]
  exact wp_app w s x 50 ho base 3 Tryd.underlying50 info_int (by decide) rfl (by decide) hown hsrc (ints_one _) hs hx hn hbase fun v' w' h1 h2 h3 =>
    h v' w' (by unfold OwnI; rw [ints_append, List.length_append]; exact h1) h2 h3
end
/-- Behind an append that may have moved: of what was there when the call began nothing has turned. -/
theorem ext_appS {w0 w w' : World} {v : Value} (h : Ext w0 w) (hg : w.grownBy w' v.ownBlock) (hv : ∀ g, v.ownBlock = some g → w0.heap.size ≤ g) : Ext w0 w' := h.grown hg h.size hv
theorem ownI_lit0 {w : World} {base : Nat} (h : base ≤ w.heap.size) : OwnI (w.alloc (.cells #[] 3)) base 3 (.slice (some ⟨w.heap.size, 0, none⟩) 0 0) [] := own_lit w base 3 1 #[] 0 h (Nat.zero_le _) rfl
theorem keep_mk {wo W : World} {p : Addr} {u : Value} (h : Ext wo W) (hc : wo.cell? p = some u) : W.cell? p = some u ∧ Ext wo W := ⟨h.cell hc, h⟩
/-- A new block, and the one ahead of it. -/
theorem heap_n1 (w : World) (o : Obj) : (w.alloc o).heap[w.heap.size]? = some o := heap_alloc_new w o
theorem heap_n2 (w : World) (o o' : Obj) : ((w.alloc o).alloc o').heap[w.heap.size]? = some o := by
  rw [Go.RowKit.Below.heap_alloc (w.alloc o) o' w.heap.size (by simp)]; exact heap_alloc_new w o
/-- An empty slice over a block that is known. -/
theorem ownI_at {w : World} {base b : Nat} (h : w.heap[b]? = some (.cells #[] 3 (0, 0))) (hb : base ≤ b) : OwnI w base 3 (.slice (some ⟨b, 0, none⟩) 0 0) [] :=
  ⟨rfl, .inr ⟨b, 0, #[], rfl, hb, h, Nat.le_refl _, Nat.zero_le _, rfl, rfl⟩⟩
/-- A slice of one number over a block that is known. -/
theorem rdI_at {w : World} {b : Nat} {u : Int} {e : TypeId} {fr : Nat × Nat} (h : w.heap[b]? = some (.cells #[.int .i64 u] e fr)) : RdI w (.slice (some ⟨b, 0, none⟩) 1 1) [u] := by
  refine ⟨rfl, some ⟨b, 0, none⟩, 1, rfl, Nat.le_refl _, by unfold maxLen; omega, fun j x hx => ⟨_, rfl, ?_⟩⟩
  exact World.news_of_block h j x hx
theorem rdI_kept {w w' : World} {row : Option Nat} {b : Nat} {u : Int} {e : TypeId} {fr : Nat × Nat} (hg : w.grownBy w' row) (h : w.heap[b]? = some (.cells #[.int .i64 u] e fr)) (hne : row ≠ some b) : RdI w' (.slice (some ⟨b, 0, none⟩) 1 1) [u] :=
  rdI_at ((hg.block b (Array.getElem?_eq_some_iff.1 h).1 (fun e => hne e.symm)).trans h)