/-
  Slices of pairs of numbers: the words, and the laws' helpers on them. Conditions: lengths up to 2^29.
-/
import Derived.Test.YtapgpjhogdmjbaaDoorApp
namespace Go.Proofs.YtapgpjhogdmjbaaDoor
open Go.RowKit

section
variable {ops : Array Oper} {rest : List Oper} {o : Oper} {a : Act} {Q : Exit → Act → World → Prop}
/-- append(v, u), numbers, where the walk has reckoned the number of the new block. -/
theorem appIn (w : World) {nb : Nat} {v : Value} {xs : List Int} {base : Nat} (hown : OwnI w base 3 v xs) (hgd : o.guard = none) (s x : Operand)
    (ho : o.op = .call { callee := .builtin .append, args := #[s, x], argTypes := #[50, 50] })
    (u : Int) (hs : a.eval s = v) (hx : a.eval x = .slice (some ⟨nb, 0, none⟩) 1 1) (hnb : w.heap.size = nb) (hn : xs.length ≤ 1073741824) (hbase : base ≤ w.heap.size)
    (h : ∀ v' w', OwnI w' base 3 v' (xs ++ [u]) → (w.alloc (.cells #[.int .i64 u] 3)).grownBy w' v.ownBlock → (v'.ownBlock = v.ownBlock ∨ v'.ownBlock = some (w.heap.size + 1)) → wpList Tryd.prog ops Q rest (a.put o.dst v') w') :
    wpList Tryd.prog ops Q (o :: rest) a (w.alloc (.cells #[.int .i64 u] 3)) := by
  subst hnb
  exact appI w hown hgd s x ho u hs hx hn hbase h
end
/-! ### Blocks of three cells, known whole -/
section
variable {w w' : World} {b : Nat} {x y z u : Value} {e : TypeId}
theorem blk3 (h : w.heap[b]? = some (.cells #[x, y, z] e)) : w.cell? ⟨b, 0, none⟩ = some x ∧ w.cell? ⟨b, 1, none⟩ = some y ∧ w.cell? ⟨b, 2, none⟩ = some z := by
  simp [World.cell?, h]
theorem blk3f (h : w.heap[b]? = some (.cells #[x, y, z] e)) : w.frozen? ⟨b, 0, none⟩ = false ∧ w.frozen? ⟨b, 1, none⟩ = false ∧ w.frozen? ⟨b, 2, none⟩ = false := by
  simp [World.frozen?, h]
theorem blk3_set0 (h : w.heap[b]? = some (.cells #[x, y, z] e)) : (w.setCell ⟨b, 0, none⟩ u).heap[b]? = some (.cells #[u, y, z] e) := by
  simp [World.setCell, Array.getElem?_modify, h]
theorem blk3_set1 (h : w.heap[b]? = some (.cells #[x, y, z] e)) : (w.setCell ⟨b, 1, none⟩ u).heap[b]? = some (.cells #[x, u, z] e) := by
  simp [World.setCell, Array.getElem?_modify, h]
theorem blk3_set2 (h : w.heap[b]? = some (.cells #[x, y, z] e)) : (w.setCell ⟨b, 2, none⟩ u).heap[b]? = some (.cells #[x, y, u] e) := by
  simp [World.setCell, Array.getElem?_modify, h]
theorem blk2 (h : w.heap[b]? = some (.cells #[x, y] e)) : w.cell? ⟨b, 0, none⟩ = some x ∧ w.cell? ⟨b, 1, none⟩ = some y := by
  simp [World.cell?, h]
theorem blk2f (h : w.heap[b]? = some (.cells #[x, y] e)) : w.frozen? ⟨b, 0, none⟩ = false ∧ w.frozen? ⟨b, 1, none⟩ = false := by
  simp [World.frozen?, h]
theorem blk2_set0 (h : w.heap[b]? = some (.cells #[x, y] e)) : (w.setCell ⟨b, 0, none⟩ u).heap[b]? = some (.cells #[u, y] e) := by
  simp [World.setCell, Array.getElem?_modify, h]
theorem blk2_set1 (h : w.heap[b]? = some (.cells #[x, y] e)) : (w.setCell ⟨b, 1, none⟩ u).heap[b]? = some (.cells #[x, u] e) := by
  simp [World.setCell, Array.getElem?_modify, h]
theorem blk_other {p : Addr} {o : Obj} (h : w.heap[b]? = some o) (hne : p.block ≠ b) : (w.setCell p u).heap[b]? = some o := (Below.heap_setCell w p u b (fun e => hne e.symm)).trans h
theorem blk_new (o : Obj) (hb : w.heap.size = b) : (w.alloc o).heap[b]? = some o := by subst hb; exact heap_alloc_new w o
theorem blk_old {o o' : Obj} (h : w.heap[b]? = some o) : (w.alloc o').heap[b]? = some o := (Below.heap_alloc w o' b (Array.getElem?_eq_some_iff.1 h).1).trans h
end
theorem blk_lt {w : World} {b : Nat} {o : Obj} (h : w.heap[b]? = some o) : b < w.heap.size := (Array.getElem?_eq_some_iff.1 h).1
def flat2 : List (Int × Int) → List Int
  | [] => []
  | e :: r => e.1 :: e.2 :: flat2 r
@[simp] theorem length_flat2 (es : List (Int × Int)) : (flat2 es).length = es.length * 2 := by
  induction es with
  | nil => rfl
  | cons e r ih => simp [flat2, ih]; omega
theorem flat2_get (es : List (Int × Int)) : ∀ {k : Nat} (h : k < es.length), (flat2 es)[k * 2]? = some es[k].1 ∧ (flat2 es)[k * 2 + 1]? = some es[k].2 := by
  induction es with
  | nil => intro k h; simp at h
  | cons e r ih =>
    intro k h
    cases k with
    | zero => simp [flat2]
    | succ k =>
      have := ih (k := k) (by simpa using h)
      rw [show (k + 1) * 2 = k * 2 + 2 from by omega]
      simpa [flat2] using this
theorem flat2_append (a b : List (Int × Int)) : flat2 (a ++ b) = flat2 a ++ flat2 b := by
  induction a with
  | nil => rfl
  | cons e r ih => simp [flat2, ih]
/-- The slice value v of n elements of s numbers each reads as the list of numbers xs. -/
def RdN (w : World) (s : Nat) (v : Value) (n : Nat) (xs : List Int) : Prop := Rd w s v n (ints xs)
def OwnN (w : World) (base : Nat) (e : TypeId) (s : Nat) (v : Value) (n : Nat) (xs : List Int) : Prop := Own w base e s v n (ints xs)
section
variable {w w' : World} {s n : Nat} {v : Value} {xs : List Int} {base : Nat} {e : TypeId}
theorem RdN.ext (h : RdN w s v n xs) (he : Ext w w') : RdN w' s v n xs := Rd.ext h he
theorem OwnN.ext (h : OwnN w base e s v n xs) (he : Ext w w') : OwnN w' base e s v n xs := own_ext h he
theorem OwnN.rd (h : OwnN w base e s v n xs) : RdN w s v n xs := own_rd h
theorem RdN.len (h : RdN w s v n xs) : xs.length = n * s := by have := h.1; simpa using this
theorem RdN.form (h : RdN w s v n xs) : ∃ A c, v = .slice A n c ∧ n ≤ c ∧ c ≤ maxLen ∧ Hid (RdN w s (.slice A n c) n xs) := by
  have h' := h
  obtain ⟨hl, A, c, hv, h1, h2, _⟩ := h'
  subst hv
  exact ⟨A, c, rfl, h1, h2, hd h⟩
theorem RdN.at_ {A : Option Addr} {n' c : Nat} (h : Hid (RdN w s (.slice A n' c) n xs)) {k : Nat} {x : Int} (hk : xs[k]? = some x) : ∃ a, A = some a ∧ w.cell? (a.add k) = some (.int .i64 x) := by
  obtain ⟨hl, A', c', hv, h1, h2, hc⟩ := h.out
  obtain ⟨a, ha, hcell⟩ := hc k (.int .i64 x) (by simp [ints, hk])
  injection hv with hA _ _
  exact ⟨a, hA.trans ha, hcell⟩
theorem off_cell {w : World} {a : Addr} {i : Nat} {u : Value} (h : w.cell? (a.add (i + 1)) = some u) : w.cell? ⟨(a.add i).block, (a.add i).off + 1, none⟩ = some u := by
  have e : (⟨(a.add i).block, (a.add i).off + 1, none⟩ : Addr) = a.add (i + 1) := by
    unfold Addr.add
    by_cases hi : i = 0 <;> simp [hi, Nat.add_assoc]
  rw [e]; exact h
theorem off_cell2 {w : World} {a : Addr} {i : Nat} {u : Value} (h : w.cell? (a.add (i + 2)) = some u) : w.cell? ⟨(a.add i).block, (a.add i).off + 2, none⟩ = some u := by
  have e : (⟨(a.add i).block, (a.add i).off + 2, none⟩ : Addr) = a.add (i + 2) := by
    unfold Addr.add
    by_cases hi : i = 0 <;> simp [hi, Nat.add_assoc]
  rw [e]; exact h
theorem add_add (a : Addr) (i j : Nat) : (a.add i).add j = a.add (i + j) := by
  unfold Addr.add
  by_cases hi : i = 0 <;> by_cases hj : j = 0 <;> simp [hi, hj, Nat.add_assoc]
end
/-- The slice value v reads as the list of pairs es. -/
def RdP (w : World) (v : Value) (es : List (Int × Int)) : Prop := RdN w 2 v es.length (flat2 es)
def OwnP (w : World) (base : Nat) (e : TypeId) (v : Value) (es : List (Int × Int)) : Prop := OwnN w base e 2 v es.length (flat2 es)
section
variable {w w' : World} {v : Value} {es : List (Int × Int)} {base : Nat} {e : TypeId}
theorem RdP.ext (h : RdP w v es) (he : Ext w w') : RdP w' v es := Rd.ext h he
theorem OwnP.ext (h : OwnP w base e v es) (he : Ext w w') : OwnP w' base e v es := own_ext h he
theorem OwnP.rd (h : OwnP w base e v es) : RdP w v es := own_rd h
theorem RdP.form (h : RdP w v es) : ∃ A c, v = .slice A es.length c ∧ es.length ≤ c ∧ c ≤ maxLen ∧ Hid (RdP w (.slice A es.length c) es) := RdN.form h
theorem RdP.at_ {A : Option Addr} {n c : Nat} (h : Hid (RdP w (.slice A n c) es)) {k : Nat} (hk : k < es.length) : ∃ a, A = some a ∧ w.cell? (a.add (k * 2)) = some (.int .i64 es[k].1) ∧ w.cell? ⟨(a.add (k * 2)).block, (a.add (k * 2)).off + 1, none⟩ = some (.int .i64 es[k].2) := by
  obtain ⟨a, ha, h1⟩ := RdN.at_ (s := 2) (n := es.length) h (flat2_get es hk).1
  obtain ⟨a', ha', h2⟩ := RdN.at_ (s := 2) (n := es.length) h (flat2_get es hk).2
  rw [ha] at ha'
  injection ha' with ha'
  subst ha'
  exact ⟨a, ha, h1, off_cell h2⟩
end
theorem OwnP.form {w : World} {v : Value} {es : List (Int × Int)} {base : Nat} {e : TypeId} (h : OwnP w base e v es) : ∃ A c, v = .slice A es.length c ∧ Hid (OwnP w base e (.slice A es.length c) es) := by
  obtain ⟨A, c, rfl, _⟩ := h.rd.form
  exact ⟨A, c, rfl, hd h⟩
theorem own_storeN {w : World} {base : Nat} {e : TypeId} {s g n cap : Nat} {cs : List Value} (h : Own w base e s (.slice (some ⟨g, 0, none⟩) n cap) n cs) {j : Nat} (hj : j < n * s) :
    (∃ u0, w.cell? ⟨g, j, none⟩ = some u0) ∧ w.frozen? ⟨g, j, none⟩ = false ∧ Hid (∀ u, Own (w.setCell ⟨g, j, none⟩ u) base e s (.slice (some ⟨g, 0, none⟩) n cap) n (cs.set j u)) := by
  refine ⟨?_, World.ownsRow.frozenAt h j, hd fun u => (World.ownsRow.stored h j u).1⟩
  have := World.ownsRow.cellAt h j hj
  have hl : j < cs.length := by have := h.1; omega
  rw [List.getElem?_eq_getElem hl] at this
  exact ⟨_, this⟩
theorem seqI_getI {k0 : Int} {n k : Nat} (h : k < n) : (seqI k0 n)[k]? = some (k0 + k) := by simp [seqI, h]
theorem seqI_2a {k0 : Int} {n k : Nat} (h : k < n) : (seqI k0 (n * 2))[k * 2]? = some (k0 + (k : Int) * 2) := by rw [seqI_getI (by omega), Int.natCast_mul]; rfl
theorem seqI_2b {k0 : Int} {n k : Nat} (h : k < n) : (seqI k0 (n * 2))[k * 2 + 1]? = some (k0 + (k : Int) * 2 + 1) := by rw [seqI_getI (by omega), Int.natCast_add, Int.natCast_mul, ← Int.add_assoc]; rfl
end Go.Proofs.YtapgpjhogdmjbaaDoor
