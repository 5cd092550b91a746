/-
  The words in which all contracts of this seat are said, and what is true of them over any program: 'Rd' a slice value reads as a list of cells; 'Own' a slice of the call's own holds a list; 'Ext' one world extends another; 'Ret' the call returns a value and leaves the world alone. No condition.
-/
import Derived.WalkKit
import Derived.WalkSpells
import Derived.WalkLawsBesides
import Derived.BigQuiet
import Derived.Deep.QuietTactic
import Derived.Maps.AppendAt
import Derived.Deep.AppendLies
import Derived.Deep.RegionHeld3
import Derived.Deep.DeepCutAuto
namespace Go.Proofs.YtapgpjhogdmjbaaDoor
open Go.RowKit

theorem hd {p : Prop} (h : p) : Hid p := h

/-- A call returns v and leaves the world alone. -/
def Ret (w : World) (v : Value) : Ending → World → Prop := fun e w' => e = .returned v ∧ w = w'
theorem Ret.mk {w : World} {v v' : Value} (h : v' = v) : Ret w v (.returned v') w := ⟨by rw [h], rfl⟩
/-- A call returns v and leaves all old memory alone. -/
def RetE (w : World) (v : Value) : Ending → World → Prop := fun e w' => e = .returned v ∧ Below w.heap.size w w'

/-- w' has all blocks of w, as they were. -/
def Ext (w w' : World) : Prop := Below w.heap.size w w'
theorem Ext.refl (w : World) : Ext w w := Below.refl _ _
theorem Ext.trans {a b c : World} (h : Ext a b) (k : Ext b c) : Ext a c := Below.trans h (Below.mono k h.size)
theorem Ext.alloc {a w : World} (h : Ext a w) (o : Obj) : Ext a (w.alloc o) := Below.alloc h h.size o
theorem Ext.new (w : World) (o : Obj) : Ext w (w.alloc o) := (Ext.refl w).alloc o
theorem Ext.drew {a w : World} (h : Ext a w) : Ext a w.drew := Below.drew h
theorem Ext.drewN {a w : World} (h : Ext a w) (n : Nat) : Ext a (w.drewN n) := ⟨h.os, h.tape, h.output, h.size, h.block⟩
theorem Ext.below {a b c : World} {B : Nat} (h : Below B a b) (k : Ext b c) (hB : B ≤ b.heap.size) : Below B a c := h.trans (Below.mono k hB)
theorem Below.drewN' {B : Nat} {a w : World} (h : Below B a w) (n : Nat) : Below B a (w.drewN n) := ⟨h.os, h.tape, h.output, h.size, h.block⟩
theorem Ext.cell {w w' : World} (h : Ext w w') {p : Addr} {u : Value} (hu : w.cell? p = some u) : w'.cell? p = some u :=
  (Below.cell h (World.block_lt_of_cell? w p hu)).trans hu
theorem Ext.frozen {w w' : World} (h : Ext w w') {p : Addr} (hp : p.block < w.heap.size) : w'.frozen? p = w.frozen? p := Below.frozen h hp
theorem Ext.heap {w w' : World} (h : Ext w w') {g : Nat} {o : Obj} (hg : w.heap[g]? = some o) : w'.heap[g]? = some o :=
  (h.block g (Array.getElem?_eq_some_iff.1 hg).1).trans hg

/-- The slice value v has n elements of s cells each; its cells read as cs. -/
def Rd (w : World) (s : Nat) (v : Value) (n : Nat) (cs : List Value) : Prop :=
  cs.length = n * s ∧ ∃ A c, v = .slice A n c ∧ n ≤ c ∧ c ≤ maxLen ∧ ∀ j u, cs[j]? = some u → ∃ a, A = some a ∧ w.cell? (a.add j) = some u

section
variable {w w' : World} {s n : Nat} {v : Value} {cs : List Value}
theorem Rd.keep (h : Rd w s v n cs) (hk : ∀ p u, w.cell? p = some u → w'.cell? p = some u) : Rd w' s v n cs := by
  obtain ⟨hl, A, c, hv, h1, h2, hc⟩ := h
  exact ⟨hl, A, c, hv, h1, h2, fun j u hu => by obtain ⟨a, ha, hcell⟩ := hc j u hu; exact ⟨a, ha, hk _ _ hcell⟩⟩
theorem Rd.ext (h : Rd w s v n cs) (he : Ext w w') : Rd w' s v n cs := h.keep fun _ _ hu => he.cell hu
theorem Rd.drew (h : Rd w s v n cs) : Rd w.drew s v n cs := h
theorem Rd.drewN (h : Rd w s v n cs) (k : Nat) : Rd (w.drewN k) s v n cs := h
theorem Rd.nil (w : World) (s : Nat) : Rd w s (.slice none 0 0) 0 [] := ⟨by simp, none, 0, rfl, Nat.le_refl _, Nat.zero_le _, fun j u hu => by simp at hu⟩
end

/-- The slice value v of n elements of type e (s cells each) lies at the head of a block of the call's own (from base on) and holds cs. -/
abbrev Own (w : World) (base : Nat) (e : TypeId) (s : Nat) (v : Value) (n : Nat) (cs : List Value) : Prop := w.ownsRow base e s v n cs

section
variable {w w' : World} {base : Nat} {e : TypeId} {s n : Nat} {v : Value} {cs : List Value}
theorem own_blocks (h : Own w base e s v n cs) : ∀ g, v.ownBlock = some g → base ≤ g ∧ g < w.heap.size := World.ownsRow.lt h
theorem own_ext (h : Own w base e s v n cs) (he : Ext w w') : Own w' base e s v n cs := by
  refine ⟨h.1, ?_⟩
  rcases h.2 with hn | ⟨g, cap, cur, hv, hb, hg, rest⟩
  · exact .inl hn
  · exact .inr ⟨g, cap, cur, hv, hb, he.heap hg, rest⟩
theorem own_rebase {base' : Nat} (h : Own w base e s v n cs) (hb : base' ≤ base) : Own w base' e s v n cs := by
  refine ⟨h.1, ?_⟩
  rcases h.2 with hn | ⟨g, cap, cur, hv, hb', rest⟩
  · exact .inl hn
  · exact .inr ⟨g, cap, cur, hv, Nat.le_trans hb hb', rest⟩
theorem own_below (h : Own w base e s v n cs) {B : Nat} (he : Below B w w') (hB : ∀ g, v.ownBlock = some g → g < B) : Own w' base e s v n cs := by
  refine ⟨h.1, ?_⟩
  rcases h.2 with hn | ⟨g, cap, cur, hv, hb, hg, rest⟩
  · exact .inl hn
  · exact .inr ⟨g, cap, cur, hv, hb, (he.block g (hB g (by rw [hv]; rfl))).trans hg, rest⟩
theorem own_rd (h : Own w base e s v n cs) : Rd w s v n cs := by
  refine ⟨h.1, ?_⟩
  rcases h.2 with ⟨hv, hn⟩ | ⟨g, cap, cur, hv, hb, hg, hnc, hcm, hcs, ht⟩
  · subst hn
    have : cs = [] := List.eq_nil_of_length_eq_zero (by simpa using h.1)
    subst this
    exact ⟨none, 0, hv, Nat.le_refl _, Nat.zero_le _, fun j u hu => by simp at hu⟩
  · exact ⟨some ⟨g, 0, none⟩, cap, hv, hnc, hcm, fun j u hu => ⟨_, rfl, World.ownsRow.cells h (g := g) (by rw [hv]; rfl) j u hu⟩⟩
theorem own_nil (w : World) (base : Nat) (e : TypeId) (s : Nat) : Own w base e s (.slice none 0 0) 0 [] := World.ownsRow_nil _ _ _ _
/-- A slice literal's block, or any new block of just the elements' cells. -/
theorem own_lit (w : World) (base : Nat) (e : TypeId) (s : Nat) (cs : Array Value) (n : Nat) (hb : base ≤ w.heap.size) (hm : n ≤ maxLen) (hs : cs.size = n * s) :
    Own (w.alloc (.cells cs e)) base e s (.slice (some ⟨w.heap.size, 0, none⟩) n n) n cs.toList :=
  ⟨by simp [hs], .inr ⟨w.heap.size, n, cs, rfl, hb, heap_alloc_new w _, Nat.le_refl _, hm, hs, by rw [List.take_of_length_le (by simp [hs])]⟩⟩
end

/-- append of one element of one cell onto a slice of the call's own: the walk shows the element in a block of its own. -/
theorem wpList_app1 {P : Program} (w : World) {ops : Array Oper} {rest : List Oper} {o : Oper} {a : Act} {Q : Exit → Act → World → Prop} (hgd : o.guard = none) (s x : Operand) (t : TypeId)
    (ho : o.op = .call { callee := .builtin .append, args := #[s, x], argTypes := #[t, t] })
    (e : TypeId) {z : Value} {bytes : Nat} (ht : P.underlying t = some (.slice e)) (hinfo : (P.info? e).map (fun i => (i.zero, i.size, i.bytes)) = some (some z, 1, bytes)) (hby : bytes ≤ 65536)
    (hzs : z.cells.size = 1) (base : Nat)
    (v : Value) (n : Nat) (xs : List Value) (hs : a.eval s = v) (hown : Own w base e 1 v n xs)
    (u : Value) (hx : a.eval x = .slice (some ⟨w.heap.size, 0, none⟩) 1 1) (h1 : u.oneCell' = true) (hn : n ≤ 1073741824) (hbase : base ≤ w.heap.size)
    (h : ∀ v' w', Own w' base e 1 v' (n + 1) (xs ++ [u]) → (w.alloc (.cells #[u] e)).grownBy w' v.ownBlock → (v'.ownBlock = v.ownBlock ∨ v'.ownBlock = some (w.heap.size + 1)) → wpList P ops Q rest (a.put o.dst v') w') :
    wpList P ops Q (o :: rest) a (w.alloc (.cells #[u] e)) := by
  obtain ⟨i, hi, hz, hz1, hz2⟩ := info_parts hinfo
  refine wpList_append_own_at (w.alloc (.cells #[u] e)) hgd s x t ho base e i z 1 bytes ht hi hz hz1 hz2 hzs (by decide) v n xs hs (own_ext hown (Ext.new w _)) ⟨w.heap.size, 0, none⟩ 1 1 [u] hx rfl (cell_one_new _ _ _) (by simpa using h1)
    (by unfold maxLen; omega) ?_ (by simp; omega) fun v' w' h2 h3 _ h5 => h v' w' h2 h3 (by simpa using h5)
  have : (n + 1) * bytes ≤ 1073741825 * 65536 := Nat.mul_le_mul (by omega) hby
  omega
/-- What an append leaves of the frame. -/
theorem below_app {B : Nat} {w0 w w' : World} {v : Value} {o : Obj} (h : Below B w0 w) (hg : (w.alloc o).grownBy w' v.ownBlock) (hB : B ≤ w.heap.size) (hv : ∀ g, v.ownBlock = some g → B ≤ g) : Below B w0 w' :=
  (h.alloc hB o).grown hg (by simp; omega) hv
/-- Another slice of the call's own, in another block, is kept by an append. -/
theorem own_app {w w' : World} {base : Nat} {e : TypeId} {s n : Nat} {v v2 : Value} {cs : List Value} {o : Obj} (h : Own w base e s v2 n cs) (hg : (w.alloc o).grownBy w' v.ownBlock) (hne : v2.ownBlock = none ∨ v2.ownBlock ≠ v.ownBlock) : Own w' base e s v2 n cs :=
  (World.ownsRow.kept (own_ext h (Ext.new w o)) hg hne)

/-- A list of numbers in a slice. -/
def ints (xs : List Int) : List Value := xs.map (Value.int .i64)
@[simp] theorem length_ints (xs : List Int) : (ints xs).length = xs.length := by simp [ints]
theorem ints_snoc (xs : List Int) (x : Int) : ints (xs ++ [x]) = ints xs ++ [.int .i64 x] := by simp [ints]
theorem ints_get {xs : List Int} {k : Nat} (h : k < xs.length) : (ints xs)[k]? = some (.int .i64 xs[k]) := by simp [ints, h]
/-- The slice value v reads as the list of numbers xs. -/
def RdI (w : World) (v : Value) (xs : List Int) : Prop := Rd w 1 v xs.length (ints xs)
theorem RdI.ext {w w' : World} {v : Value} {xs : List Int} (h : RdI w v xs) (he : Ext w w') : RdI w' v xs := Rd.ext h he
/-- In a round: the slice's form, its bound; and the k-th cell. -/
theorem RdI.form {w : World} {v : Value} {xs : List Int} (h : RdI w v xs) : ∃ A c, v = .slice A xs.length c ∧ xs.length ≤ c ∧ c ≤ maxLen ∧ Hid (RdI w (.slice A xs.length c) xs) := by
  have h' := h
  obtain ⟨hl, A, c, hv, h1, h2, _⟩ := h'
  subst hv
  exact ⟨A, c, rfl, h1, h2, hd h⟩
theorem RdI.at_ {w : World} {A : Option Addr} {n c : Nat} {xs : List Int} (h : Hid (RdI w (.slice A n c) xs)) {k : Nat} (hk : k < xs.length) : ∃ a, A = some a ∧ w.cell? (a.add k) = some (.int .i64 xs[k]) := by
  obtain ⟨hl, A', c', hv, h1, h2, hc⟩ := h.out
  obtain ⟨a, ha, hcell⟩ := hc k _ (ints_get hk)
  injection hv with hA _ _
  exact ⟨a, hA.trans ha, hcell⟩
/-- The slice of the call's own v holds the numbers xs (e: the type int). -/
def OwnI (w : World) (base : Nat) (e : TypeId) (v : Value) (xs : List Int) : Prop := Own w base e 1 v xs.length (ints xs)
theorem OwnI.rd {w : World} {base : Nat} {e : TypeId} {v : Value} {xs : List Int} (h : OwnI w base e v xs) : RdI w v xs := own_rd h
theorem OwnI.ext {w w' : World} {base : Nat} {e : TypeId} {v : Value} {xs : List Int} (h : OwnI w base e v xs) (he : Ext w w') : OwnI w' base e v xs := own_ext h he

/-- A call returns a new slice of the numbers xs and leaves all old memory alone. -/
def RetI (w : World) (e : TypeId) (xs : List Int) : Ending → World → Prop := fun en w' => ∃ v, en = .returned v ∧ OwnI w' w.heap.size e v xs ∧ Ext w w'

theorem drop_cons {α : Type} {xs : List α} {k : Nat} (h : k < xs.length) : xs.drop k = xs[k] :: xs.drop (k + 1) := List.drop_eq_getElem_cons h

/-- A call returns v; the world has at most drawn. -/
def RetQ (w : World) (v : Value) : Ending → World → Prop := fun e w' => e = .returned v ∧ ∃ n, w' = w.drewN n
theorem RetQ.mk {w : World} {v v' : Value} (h : v' = v) : RetQ w v (.returned v') w := ⟨by rw [h], 0, rfl⟩
theorem RetQ.mkN {w : World} {v v' : Value} {n : Nat} (h : v' = v) : RetQ w v (.returned v') (w.drewN n) := ⟨by rw [h], n, rfl⟩
/-- A call returns v; old memory is as it was. -/
def RetX (w : World) (v : Value) : Ending → World → Prop := fun e w' => e = .returned v ∧ Ext w w'
theorem RetX.mk {w w1 : World} {v v' : Value} (h : v' = v) (hx : Ext w w1) : RetX w v (.returned v') w1 := ⟨by rw [h], hx⟩
theorem ext_drewN (w : World) (n : Nat) : Ext w (w.drewN n) := (Ext.refl w).drewN n

/-- A cell of the call's own slice may be written. -/
theorem own_store {w : World} {base : Nat} {e : TypeId} {g n cap : Nat} {cs : List Value} (h : Own w base e 1 (.slice (some ⟨g, 0, none⟩) n cap) n cs) {k : Nat} (hk : k < n) :
    (∃ u0, w.cell? ⟨g, k, none⟩ = some u0) ∧ w.frozen? ⟨g, k, none⟩ = false ∧ Hid (∀ u, Own (w.setCell ⟨g, k, none⟩ u) base e 1 (.slice (some ⟨g, 0, none⟩) n cap) n (cs.set k u)) := by
  refine ⟨?_, World.ownsRow.frozenAt h k, hd fun u => (World.ownsRow.stored h k u).1⟩
  have := World.ownsRow.cellAt h k (by omega)
  have hl : k < cs.length := by have := h.1; omega
  rw [List.getElem?_eq_getElem hl] at this
  exact ⟨_, this⟩
theorem splice_set {α : Type} {P Z : List α} {k : Nat} {u : α} (hk : P[k]? = some u) (hz : Z.length = P.length) : (P.take k ++ Z.drop k).set k u = P.take (k + 1) ++ Z.drop (k + 1) := by
  obtain ⟨hlt, rfl⟩ := List.getElem?_eq_some_iff.1 hk
  rw [List.set_append_right _ _ (by simp; omega)]
  have e : k - (P.take k).length = 0 := by simp; omega
  rw [e, drop_cons (xs := Z) (by omega), List.set_cons_zero, List.take_succ_eq_append_getElem hlt, List.append_assoc]
  rfl
/-- Blocks from lo to hi alone may have changed; new blocks may have come. -/
structure Touch (lo hi : Nat) (w w' : World) : Prop where
  os : w'.os = w.os
  tape : w'.tape = w.tape
  output : w'.output = w.output
  size : w.heap.size ≤ w'.heap.size
  block : ∀ k, k < w.heap.size → (k < lo ∨ hi ≤ k) → w'.heap[k]? = w.heap[k]?
theorem Touch.refl (lo hi : Nat) (w : World) : Touch lo hi w w := ⟨rfl, rfl, rfl, Nat.le_refl _, fun _ _ _ => rfl⟩
theorem Touch.trans {lo hi : Nat} {a b c : World} (h : Touch lo hi a b) (k : Touch lo hi b c) : Touch lo hi a c :=
  ⟨k.os.trans h.os, k.tape.trans h.tape, k.output.trans h.output, Nat.le_trans h.size k.size, fun i hi' hn => (k.block i (Nat.lt_of_lt_of_le hi' h.size) hn).trans (h.block i hi' hn)⟩
theorem Touch.mono {lo hi lo' hi' : Nat} {a b : World} (h : Touch lo hi a b) (h1 : lo' ≤ lo) (h2 : hi ≤ hi') : Touch lo' hi' a b :=
  ⟨h.os, h.tape, h.output, h.size, fun i hi' hn => h.block i hi' (by omega)⟩
theorem Touch.below {lo hi B : Nat} {a b c : World} (h : Below B a b) (k : Touch lo hi b c) (hB : B ≤ lo) (hs : B ≤ b.heap.size) : Below B a c :=
  h.trans ⟨k.os, k.tape, k.output, k.size, fun i hi => k.block i (by omega) (by omega)⟩
theorem Touch.setCell {lo hi : Nat} {a w : World} (h : Touch lo hi a w) {p : Addr} (h1 : lo ≤ p.block) (h2 : p.block < hi) (u : Value) : Touch lo hi a (w.setCell p u) :=
  h.trans ⟨rfl, rfl, rfl, by simp [World.setCell], fun k hk hn => Below.heap_setCell _ _ _ _ (by omega)⟩
theorem Touch.of_ext {lo hi : Nat} {a b : World} (h : Ext a b) : Touch lo hi a b := ⟨h.os, h.tape, h.output, h.size, fun i hi _ => h.block i hi⟩
theorem own_touch {w w' : World} {base : Nat} {e : TypeId} {s n : Nat} {v : Value} {cs : List Value} {lo hi : Nat} (h : Own w base e s v n cs) (ht : Touch lo hi w w') (hn : ∀ g, v.ownBlock = some g → g < lo ∨ hi ≤ g) : Own w' base e s v n cs := by
  refine ⟨h.1, ?_⟩
  rcases h.2 with h0 | ⟨g, cap, cur, hv, hb, hg, rest⟩
  · exact .inl h0
  · exact .inr ⟨g, cap, cur, hv, hb, (ht.block g (Array.getElem?_eq_some_iff.1 hg).1 (hn g (by rw [hv]; rfl))).trans hg, rest⟩
/-- k0, k0 + 1, .. (n numbers). -/
def seqI (k0 : Int) (n : Nat) : List Int := (List.range n).map fun j : Nat => k0 + (j : Int)
@[simp] theorem length_seqI (k0 : Int) (n : Nat) : (seqI k0 n).length = n := by simp [seqI]
theorem seqI_get {k0 : Int} {n k : Nat} (h : k < n) : (ints (seqI k0 n))[k]? = some (.int .i64 (k0 + k)) := by simp [ints, seqI, h]
theorem getElem_seqI {k0 : Int} {n k : Nat} (h : k < (seqI k0 n).length) : (seqI k0 n)[k] = k0 + k := by simp [seqI]

theorem q_same {P : Program} {f : FuncId} {args : Array Value} {w : World} {n : Nat} {v : Value} (h : Calls P f args (w.drewN n) (Ret (w.drewN n) v)) : Calls P f args (w.drewN n) fun e w'' => e = .returned v ∧ ∃ m, w'' = w.drewN m :=
  h.mono fun _ _ ⟨he, hm⟩ => ⟨he, n, hm.symm⟩
theorem q_drew {P : Program} {f : FuncId} {args : Array Value} {w : World} {n : Nat} {v : Value} (h : Calls P f args (w.drewN n) (RetQ (w.drewN n) v)) : Calls P f args (w.drewN n) fun e w'' => e = .returned v ∧ ∃ m, w'' = w.drewN m :=
  h.mono fun _ _ ⟨he, m, hm⟩ => ⟨he, n + m, by rw [hm, World.drewN_drewN]⟩
theorem q_same' {P : Program} {f : FuncId} {args : Array Value} {w : World} {a n : Nat} {v : Value} (h : Calls P f args (w.drewN (a + n)) (Ret (w.drewN (a + n)) v)) : Calls P f args (w.drewN (a + n)) fun e w'' => e = .returned v ∧ ∃ m, w'' = w.drewN (a + m) :=
  h.mono fun _ _ ⟨he, hm⟩ => ⟨he, n, hm.symm⟩
theorem q_drew' {P : Program} {f : FuncId} {args : Array Value} {w : World} {a n : Nat} {v : Value} (h : Calls P f args (w.drewN (a + n)) (RetQ (w.drewN (a + n)) v)) : Calls P f args (w.drewN (a + n)) fun e w'' => e = .returned v ∧ ∃ m, w'' = w.drewN (a + m) :=
  h.mono fun _ _ ⟨he, m, hm⟩ => ⟨he, n + m, by rw [hm, World.drewN_drewN, Nat.add_assoc]⟩

/-- A list of bools in a slice. -/
def bools (xs : List Bool) : List Value := xs.map Value.bool
@[simp] theorem length_bools (xs : List Bool) : (bools xs).length = xs.length := by simp [bools]
theorem bools_snoc (xs : List Bool) (x : Bool) : bools (xs ++ [x]) = bools xs ++ [.bool x] := by simp [bools]
theorem bools_get {xs : List Bool} {k : Nat} (h : k < xs.length) : (bools xs)[k]? = some (.bool xs[k]) := by simp [bools, h]
def RdB (w : World) (v : Value) (xs : List Bool) : Prop := Rd w 1 v xs.length (bools xs)
theorem RdB.ext {w w' : World} {v : Value} {xs : List Bool} (h : RdB w v xs) (he : Ext w w') : RdB w' v xs := Rd.ext h he
theorem RdB.form {w : World} {v : Value} {xs : List Bool} (h : RdB w v xs) : ∃ A c, v = .slice A xs.length c ∧ xs.length ≤ c ∧ c ≤ maxLen ∧ Hid (RdB w (.slice A xs.length c) xs) := by
  have h' := h
  obtain ⟨hl, A, c, hv, h1, h2, _⟩ := h'
  subst hv
  exact ⟨A, c, rfl, h1, h2, hd h⟩
theorem RdB.at_ {w : World} {A : Option Addr} {n c : Nat} {xs : List Bool} (h : Hid (RdB w (.slice A n c) xs)) {k : Nat} (hk : k < xs.length) : ∃ a, A = some a ∧ w.cell? (a.add k) = some (.bool xs[k]) := by
  obtain ⟨hl, A', c', hv, h1, h2, hc⟩ := h.out
  obtain ⟨a, ha, hcell⟩ := hc k _ (bools_get hk)
  injection hv with hA _ _
  exact ⟨a, hA.trans ha, hcell⟩
def OwnB (w : World) (base : Nat) (e : TypeId) (v : Value) (xs : List Bool) : Prop := Own w base e 1 v xs.length (bools xs)
theorem OwnB.rd {w : World} {base : Nat} {e : TypeId} {v : Value} {xs : List Bool} (h : OwnB w base e v xs) : RdB w v xs := own_rd h
theorem OwnB.ext {w w' : World} {base : Nat} {e : TypeId} {v : Value} {xs : List Bool} (h : OwnB w base e v xs) (he : Ext w w') : OwnB w' base e v xs := own_ext h he
def RetB (w : World) (e : TypeId) (xs : List Bool) : Ending → World → Prop := fun en w' => ∃ v, en = .returned v ∧ OwnB w' w.heap.size e v xs ∧ Ext w w'

/-- The form of a slice of the call's own, nil or not. -/
theorem own_form {w : World} {base : Nat} {e : TypeId} {s n : Nat} {v : Value} {cs : List Value} (h : Own w base e s v n cs) :
    (v = .slice none 0 0 ∧ n = 0 ∧ cs = []) ∨ ∃ g cap, v = .slice (some ⟨g, 0, none⟩) n cap ∧ base ≤ g ∧ g < w.heap.size ∧ n ≤ cap ∧ cap ≤ maxLen := by
  rcases h.2 with ⟨hv, hn⟩ | ⟨g, cap, cur, hv, hb, hg, hnc, hcm, _⟩
  · subst hn
    exact .inl ⟨hv, rfl, List.eq_nil_of_length_eq_zero (by simpa using h.1)⟩
  · exact .inr ⟨g, cap, hv, hb, (Array.getElem?_eq_some_iff.1 hg).1, hnc, hcm⟩

/-- The inner slices vs of a slice of slices, each of the call's own (blocks from lo to below hi), no two in one block. -/
def Inner (w : World) (lo hi : Nat) (e : TypeId) (vs : List Value) (xss : List (List Int)) : Prop :=
  vs.length = xss.length ∧ (∀ (i : Nat) (u : Value) (xs : List Int), vs[i]? = some u → xss[i]? = some xs → OwnI w lo e u xs ∧ ∀ g, u.ownBlock = some g → g < hi) ∧
  (∀ (i j : Nat) (u u' : Value) (g : Nat), i ≠ j → vs[i]? = some u → vs[j]? = some u' → u.ownBlock = some g → u'.ownBlock = some g → False)
/-- A slice of slices of numbers, all of the call's own. eS: the type []int, eI: the type int. -/
def OwnSS (w : World) (lo hi : Nat) (eS eI : TypeId) (v : Value) (xss : List (List Int)) : Prop :=
  ∃ vs, Own w lo eS 1 v xss.length vs ∧ (∀ g, v.ownBlock = some g → g < hi) ∧ Inner w lo hi eI vs xss
/-- A slice of slices of numbers that is read. -/
def RdSS (w : World) (v : Value) (xss : List (List Int)) : Prop :=
  ∃ vs : List Value, Rd w 1 v xss.length vs ∧ ∀ (i : Nat) (xs : List Int), xss[i]? = some xs → ∃ u, vs[i]? = some u ∧ RdI w u xs
def RetSS (w : World) (eS eI : TypeId) (xss : List (List Int)) : Ending → World → Prop := fun en w' => ∃ v, en = .returned v ∧ OwnSS w' w.heap.size w'.heap.size eS eI v xss ∧ Ext w w'

section
variable {w w' : World} {lo hi : Nat} {eS eI : TypeId} {v : Value} {xss : List (List Int)} {vs : List Value}
theorem RdSS.ext (h : RdSS w v xss) (he : Ext w w') : RdSS w' v xss := by
  obtain ⟨vs, h1, h2⟩ := h
  exact ⟨vs, h1.ext he, fun i xs hx => by obtain ⟨u, hu, hr⟩ := h2 i xs hx; exact ⟨u, hu, hr.ext he⟩⟩
theorem Inner.ext (h : Inner w lo hi eI vs xss) (he : Ext w w') : Inner w' lo hi eI vs xss :=
  ⟨h.1, fun i u xs h1 h2 => ⟨(h.2.1 i u xs h1 h2).1.ext he, (h.2.1 i u xs h1 h2).2⟩, h.2.2⟩
theorem OwnSS.ext (h : OwnSS w lo hi eS eI v xss) (he : Ext w w') : OwnSS w' lo hi eS eI v xss := by
  obtain ⟨vs, h1, h2, h3⟩ := h
  exact ⟨vs, own_ext h1 he, h2, h3.ext he⟩
theorem OwnSS.hi_le {hi' : Nat} (h : OwnSS w lo hi eS eI v xss) (hh : hi ≤ hi') : OwnSS w lo hi' eS eI v xss := by
  obtain ⟨vs, h1, h2, h3⟩ := h
  exact ⟨vs, h1, fun g hg => Nat.lt_of_lt_of_le (h2 g hg) hh, h3.1, fun i u xs a b => ⟨(h3.2.1 i u xs a b).1, fun g hg => Nat.lt_of_lt_of_le ((h3.2.1 i u xs a b).2 g hg) hh⟩, h3.2.2⟩
theorem OwnSS.rd (h : OwnSS w lo hi eS eI v xss) : RdSS w v xss := by
  obtain ⟨vs, h1, _, h3⟩ := h
  refine ⟨vs, own_rd h1, fun i xs hx => ?_⟩
  have hi' : i < xss.length := (List.getElem?_eq_some_iff.1 hx).1
  have hu : vs[i]? = some (vs[i]'(by rw [h3.1]; exact hi')) := List.getElem?_eq_getElem _
  exact ⟨_, hu, (h3.2.1 i _ xs hu hx).1.rd⟩
theorem OwnSS.touch {lo' hi' : Nat} (h : OwnSS w lo hi eS eI v xss) (ht : Touch lo' hi' w w') (hd : hi ≤ lo' ∨ hi' ≤ lo) : OwnSS w' lo hi eS eI v xss := by
  obtain ⟨vs, h1, h2, h3⟩ := h
  refine ⟨vs, own_touch h1 ht fun g hg => ?_, h2, h3.1, fun i u xs a b => ⟨own_touch (h3.2.1 i u xs a b).1 ht fun g hg => ?_, (h3.2.1 i u xs a b).2⟩, h3.2.2⟩
  · have := h2 g hg; have := (own_blocks h1 g hg).1; omega
  · have := (h3.2.1 i u xs a b).2 g hg; have := (own_blocks (h3.2.1 i u xs a b).1 g hg).1; omega
theorem RdSS.form (h : RdSS w v xss) : ∃ A c, v = .slice A xss.length c ∧ xss.length ≤ c ∧ c ≤ maxLen ∧ Hid (RdSS w (.slice A xss.length c) xss) := by
  have h' := h
  obtain ⟨vs, ⟨hl, A, c, hv, h1, h2, _⟩, _⟩ := h'
  subst hv
  exact ⟨A, c, rfl, h1, h2, hd h⟩
theorem RdSS.at_ {A : Option Addr} {n c : Nat} (h : Hid (RdSS w (.slice A n c) xss)) {k : Nat} (hk : k < xss.length) : ∃ a u, A = some a ∧ w.cell? (a.add k) = some u ∧ RdI w u xss[k] := by
  obtain ⟨vs, ⟨hl, A', c', hv, h1, h2, hc⟩, h3⟩ := h.out
  obtain ⟨u, hu, hr⟩ := h3 k _ (List.getElem?_eq_getElem hk)
  obtain ⟨a, ha, hcell⟩ := hc k u hu
  injection hv with hA _ _
  exact ⟨a, u, hA.trans ha, hcell, hr⟩
end

theorem grown_refl (w : World) (row : Option Nat) : w.grownBy w row := ⟨rfl, rfl, rfl, Nat.le_refl _, fun _ _ _ => rfl⟩
theorem grown_trans {a b c : World} {row : Option Nat} (h : a.grownBy b row) (k : b.grownBy c row) : a.grownBy c row := World.grownBy.trans h k
theorem grown_set {a w : World} {g : Nat} (h : a.grownBy w (some g)) (i : Nat) (u : Value) : a.grownBy (w.setCell ⟨g, i, none⟩ u) (some g) :=
  ⟨h.os, h.tape, h.output, by simpa [World.setCell] using h.size, fun k hk hne => (Below.heap_setCell w ⟨g, i, none⟩ u k (fun e => hne (by rw [e]))).trans (h.block k hk hne)⟩
theorem touch_of_grown {w w' : World} {row : Option Nat} {lo hi : Nat} (h : w.grownBy w' row) (hr : ∀ g, row = some g → lo ≤ g ∧ g < hi) : Touch lo hi w w' :=
  ⟨h.os, h.tape, h.output, h.size, fun k hk hn => h.block k hk (fun e => by have := hr k e.symm; omega)⟩
theorem own_grown {w w' : World} {base : Nat} {e : TypeId} {s n : Nat} {v : Value} {cs : List Value} {row : Option Nat} (h : Own w base e s v n cs) (hg : w.grownBy w' row) (hne : ∀ g, v.ownBlock = some g → row = some g → False) : Own w' base e s v n cs := by
  refine ⟨h.1, ?_⟩
  rcases h.2 with h0 | ⟨g, cap, cur, hv, hb, hh, rest⟩
  · exact .inl h0
  · exact .inr ⟨g, cap, cur, hv, hb, (hg.block g (Array.getElem?_eq_some_iff.1 hh).1 (fun e => hne g (by rw [hv]; rfl) e.symm)).trans hh, rest⟩
/-- Blocks of different element types differ. -/
theorem own_ne {w : World} {b b' : Nat} {e e' : TypeId} {s s' n n' : Nat} {v v' : Value} {cs cs' : List Value} (h : Own w b e s v n cs) (h' : Own w b' e' s' v' n' cs') (hne : e ≠ e') {g : Nat} (hg : v.ownBlock = some g) (hg' : v'.ownBlock = some g) : False := by
  rcases h.2 with ⟨hv, _⟩ | ⟨g1, _, _, hv, _, hh, _⟩
  · rw [hv] at hg; cases hg
  rcases h'.2 with ⟨hv', _⟩ | ⟨g2, _, _, hv', _, hh', _⟩
  · rw [hv'] at hg'; cases hg'
  rw [hv] at hg; rw [hv'] at hg'
  simp only [Value.ownBlock, Option.some.injEq] at hg hg'
  subst hg; subst hg'
  rw [hh] at hh'
  injection hh' with hh'
  injection hh' with _ ht
  exact hne ht
/-- k0, k0 + 1, .. in lists of the given lengths. -/
def seqII (k0 : Int) : List Nat → List (List Int)
  | [] => []
  | n :: r => seqI k0 n :: seqII (k0 + n) r
def sumN : List Nat → Nat
  | [] => 0
  | n :: r => n + sumN r
theorem sumN_append (a b : List Nat) : sumN (a ++ b) = sumN a + sumN b := by
  induction a with
  | nil => simp [sumN]
  | cons x r ih => simp [sumN, ih]; omega
@[simp] theorem length_seqII (k0 : Int) (ns : List Nat) : (seqII k0 ns).length = ns.length := by
  induction ns generalizing k0 with
  | nil => rfl
  | cons n r ih => simp [seqII, ih]
theorem seqII_snoc (k0 : Int) (ns : List Nat) (n : Nat) : seqII k0 (ns ++ [n]) = seqII k0 ns ++ [seqI (k0 + sumN ns) n] := by
  induction ns generalizing k0 with
  | nil => simp [seqII, sumN]
  | cons m r ih => simp [seqII, sumN, ih]; rw [Int.add_assoc]
theorem seqII_get (k0 : Int) (ns : List Nat) (k : Nat) (h : k < ns.length) : (seqII k0 ns)[k]? = some (seqI (k0 + sumN (ns.take k)) ns[k]) := by
  induction ns generalizing k0 k with
  | nil => simp at h
  | cons n r ih => cases k with
    | zero => simp [seqII, sumN]
    | succ k => simp [seqII, sumN] at h ⊢; rw [ih _ _ h, Int.add_assoc]
theorem sumN_take_le (ns : List Nat) (k : Nat) : sumN (ns.take k) ≤ sumN ns := by
  conv => rhs; rw [← List.take_append_drop k ns, sumN_append]
  omega
theorem get_le_sumN (ns : List Nat) (k : Nat) (h : k < ns.length) : ns[k] ≤ sumN ns := by
  induction ns generalizing k with
  | nil => simp at h
  | cons n r ih => cases k with
    | zero => simp [sumN]
    | succ k => simp [sumN] at h ⊢; have := ih k h; omega
/-- The lengths of the lists. -/
def lens (xss : List (List Int)) : List Nat := xss.map List.length
@[simp] theorem length_lens (xss : List (List Int)) : (lens xss).length = xss.length := by simp [lens]
theorem lens_get {xss : List (List Int)} {k : Nat} (h : k < (lens xss).length) : (lens xss)[k] = (xss[k]'(by simpa using h)).length := by simp [lens]

section
variable {w w' : World} {lo hi : Nat} {eS eI : TypeId} {v : Value} {xss : List (List Int)} {vs : List Value}
theorem Inner.touch {lo' hi' : Nat} (h3 : Inner w lo hi eI vs xss) (ht : Touch lo' hi' w w') (hd : hi ≤ lo' ∨ hi' ≤ lo) : Inner w' lo hi eI vs xss := by
  refine ⟨h3.1, fun i u xs a b => ⟨own_touch (h3.2.1 i u xs a b).1 ht fun g hg => ?_, (h3.2.1 i u xs a b).2⟩, h3.2.2⟩
  have := (h3.2.1 i u xs a b).2 g hg; have := (own_blocks (h3.2.1 i u xs a b).1 g hg).1; omega
theorem Inner.nil (w : World) (lo hi : Nat) (eI : TypeId) : Inner w lo hi eI [] [] := ⟨rfl, fun i u xs h => by simp at h, fun i j u u' g _ h => by simp at h⟩
theorem Inner.snoc {lo' hi' : Nat} {u : Value} {xs : List Int} (h : Inner w lo hi eI vs xss) (hu : OwnI w lo' eI u xs) (hb : ∀ g, u.ownBlock = some g → g < hi') (h1 : lo ≤ lo') (h2 : hi ≤ lo') (h3 : hi ≤ hi') : Inner w lo hi' eI (vs ++ [u]) (xss ++ [xs]) := by
  obtain ⟨hl, ho, hn⟩ := h
  refine ⟨by simp [hl], fun i x ys hx hy => ?_, fun i j x x' g hij hx hx' hg hg' => ?_⟩
  · by_cases hi' : i < vs.length
    · rw [List.getElem?_append_left hi'] at hx
      rw [List.getElem?_append_left (by omega)] at hy
      exact ⟨(ho i x ys hx hy).1, fun g hg => Nat.lt_of_lt_of_le ((ho i x ys hx hy).2 g hg) h3⟩
    · have hlt := (List.getElem?_eq_some_iff.1 hx).1
      simp at hlt
      obtain rfl : i = vs.length := by omega
      simp at hx
      rw [hl] at hy; simp at hy
      subst hx; subst hy
      exact ⟨own_rebase hu h1, hb⟩
  · have hlt := (List.getElem?_eq_some_iff.1 hx).1
    have hlt' := (List.getElem?_eq_some_iff.1 hx').1
    simp at hlt hlt'
    have old : ∀ (i : Nat) (x : Value), i < vs.length → (vs ++ [u])[i]? = some x → vs[i]? = some x := fun i x hi' h => by rwa [List.getElem?_append_left hi'] at h
    have bnd : ∀ (i : Nat) (x : Value), vs[i]? = some x → x.ownBlock = some g → g < hi := fun i x h hg => by
      have hi' := (List.getElem?_eq_some_iff.1 h).1
      exact (ho i x (xss[i]'(by omega)) h (List.getElem?_eq_getElem (by omega))).2 g hg
    have new : ∀ (i : Nat) (x : Value), ¬ i < vs.length → i < vs.length + 1 → (vs ++ [u])[i]? = some x → x = u := fun i x h h' hh => by
      obtain rfl : i = vs.length := by omega
      simpa using hh.symm
    by_cases a : i < vs.length <;> by_cases b : j < vs.length
    · exact hn i j x x' g hij (old i x a hx) (old j x' b hx') hg hg'
    · have := new j x' b hlt' hx'; subst this
      have := bnd i x (old i x a hx) hg; have := (own_blocks hu g hg').1; omega
    · have := new i x a hlt hx; subst this
      have := bnd j x' (old j x' b hx') hg'; have := (own_blocks hu g hg).1; omega
    · omega
/-- One inner slice has been written. -/
theorem OwnSS.upd {k : Nat} {u : Value} {ys : List Int} (h : OwnSS w lo hi eS eI v xss) (hne : eS ≠ eI) (hvs : ∀ vs, Own w lo eS 1 v xss.length vs → vs[k]? = some u) (hk : k < xss.length) (hg : w.grownBy w' u.ownBlock) (hu : OwnI w' lo eI u ys) : OwnSS w' lo hi eS eI v (xss.set k ys) := by
  obtain ⟨vs, h1, h2, h3⟩ := h
  have hku := hvs vs h1
  have hl := h3.1
  have hOu := (h3.2.1 k u _ hku (List.getElem?_eq_getElem hk))
  refine ⟨vs, ?_, h2, by simp [hl], fun i x zs hx hz => ?_, h3.2.2⟩
  · rw [List.length_set]
    exact own_grown h1 hg fun g a b => own_ne h1 hOu.1 hne a b
  · by_cases hik : i = k
    · subst hik
      rw [hku] at hx
      injection hx with hx
      subst hx
      rw [List.getElem?_set_self hk] at hz
      injection hz with hz
      subst hz
      exact ⟨hu, hOu.2⟩
    · rw [List.getElem?_set_ne (fun e => hik e.symm)] at hz
      exact ⟨own_grown (h3.2.1 i x zs hx hz).1 hg fun g a b => h3.2.2 i k x u g hik hx hku a b, (h3.2.1 i x zs hx hz).2⟩
/-- The k-th inner slice. -/
theorem OwnSS.inner (h : OwnSS w lo hi eS eI v xss) {k : Nat} (hk : k < xss.length) : ∃ u, Hid (∀ vs, Own w lo eS 1 v xss.length vs → vs[k]? = some u) ∧ OwnI w lo eI u xss[k] ∧ (∀ g, u.ownBlock = some g → g < hi) ∧ (∀ A n c, v = .slice A n c → ∃ a, A = some a ∧ w.cell? (a.add k) = some u) := by
  obtain ⟨vs, h1, h2, h3⟩ := h
  have hu : vs[k]? = some (vs[k]'(by rw [h3.1]; exact hk)) := List.getElem?_eq_getElem _
  have ho := h3.2.1 k _ _ hu (List.getElem?_eq_getElem hk)
  refine ⟨_, hd fun vs' h' => ?_, ho.1, ho.2, fun A n c e => ?_⟩
  · have e : vs = vs' := by
      rcases h1.2 with ⟨hv, hn⟩ | ⟨g, cap, cur, hv, _, hh, _, _, _, ht⟩
      · have a := h1.1; have b := h'.1; rw [hn] at a b
        rw [List.eq_nil_of_length_eq_zero (l := vs) (by simpa using a), List.eq_nil_of_length_eq_zero (l := vs') (by simpa using b)]
      · rcases h'.2 with ⟨hv', _⟩ | ⟨g', cap', cur', hv', _, hh', _, _, _, ht'⟩
        · rw [hv] at hv'; cases hv'
        · rw [hv] at hv'
          injection hv' with e1 _ _
          injection e1 with e1
          injection e1 with e1
          subst e1
          rw [hh] at hh'
          injection hh' with e2
          injection e2 with e2 _ _
          subst e2
          rw [← ht, ← ht']
    rw [← e]; exact hu
  · obtain ⟨_, A', c', hv, _, _, hc⟩ := own_rd h1
    obtain ⟨a, ha, hcell⟩ := hc k _ hu
    rw [hv] at e
    injection e with e1 _ _
    exact ⟨a, by rw [← e1]; exact ha, hcell⟩
theorem OwnSS.form (h : OwnSS w lo hi eS eI v xss) : ∃ A c, v = .slice A xss.length c ∧ xss.length ≤ c ∧ c ≤ maxLen := by
  obtain ⟨vs, h1, _⟩ := h
  obtain ⟨_, A, c, hv, a, b, _⟩ := own_rd h1
  exact ⟨A, c, hv, a, b⟩
end

theorem OwnI.form {w : World} {base : Nat} {e : TypeId} {v : Value} {xs : List Int} (h : OwnI w base e v xs) : ∃ A c, v = .slice A xs.length c ∧ Hid (OwnI w base e (.slice A xs.length c) xs) := by
  obtain ⟨A, c, rfl, _⟩ := h.rd.form
  exact ⟨A, c, rfl, hd h⟩
theorem OwnB.form {w : World} {base : Nat} {e : TypeId} {v : Value} {xs : List Bool} (h : OwnB w base e v xs) : ∃ A c, v = .slice A xs.length c ∧ Hid (OwnB w base e (.slice A xs.length c) xs) := by
  obtain ⟨A, c, rfl, _⟩ := h.rd.form
  exact ⟨A, c, rfl, hd h⟩

theorem splice_snoc {α : Type} {vs Z : List α} {k : Nat} {u : α} (h : vs.length = k) (hk : k < Z.length) : (vs ++ Z.drop k).set k u = (vs ++ [u]) ++ Z.drop (k + 1) := by
  subst h
  rw [List.set_append_right _ _ (Nat.le_refl _), Nat.sub_self, drop_cons hk, List.set_cons_zero, List.append_assoc]
  rfl
theorem size_setCell (w : World) (p : Addr) (u : Value) : (w.setCell p u).heap.size = w.heap.size := by simp [World.setCell]

section
variable {P : Program} {f : FuncId} {args : Array Value} {w : World} {b b' : Bool}
theorem rt (h : Calls P f args w (Ret w (.bool b))) (e : Hid (b = b')) : Calls P f args w (Ret w (.bool b')) := by have := e.out; subst this; exact h
theorem rv {v v' : Value} (h : Calls P f args w (Ret w v)) (e : Hid (v = v')) : Calls P f args w (Ret w v') := by have := e.out; subst this; exact h
theorem rtq (h : Calls P f args w (RetQ w (.bool b))) (e : Hid (b = b')) : Calls P f args w (RetQ w (.bool b')) := by have := e.out; subst this; exact h
theorem rtx (h : Calls P f args w (RetX w (.bool b))) (e : Hid (b = b')) : Calls P f args w (RetX w (.bool b')) := by have := e.out; subst this; exact h
end

theorem ofInt64 (a : Nat) (ha : a < 9223372036854775808) : (BitVec.ofInt 64 (a : Int)).toNat = a := by
  rw [BitVec.ofInt_natCast, BitVec.toNat_ofNat]; exact Nat.mod_eq_of_lt (by omega)
theorem and64 (a b : Nat) (ha : a < 9223372036854775808) (hb : b < 9223372036854775808) : bits .and .i64 (a : Int) (b : Int) = ((a &&& b : Nat) : Int) := by
  have hx : a &&& b < 2 ^ 63 := Nat.and_lt_two_pow _ (by omega)
  show IntKind.i64.wrap ((BitVec.ofInt 64 (a : Int) &&& BitVec.ofInt 64 (b : Int)).toNat : Int) = _
  rw [BitVec.toNat_and, ofInt64 a ha, ofInt64 b hb, IntKind.wrap_i64]
  omega
theorem or64 (a b : Nat) (ha : a < 9223372036854775808) (hb : b < 9223372036854775808) : bits .or .i64 (a : Int) (b : Int) = ((a ||| b : Nat) : Int) := by
  have hx : a ||| b < 2 ^ 63 := Nat.or_lt_two_pow (by omega) (by omega)
  show IntKind.i64.wrap ((BitVec.ofInt 64 (a : Int) ||| BitVec.ofInt 64 (b : Int)).toNat : Int) = _
  rw [BitVec.toNat_or, ofInt64 a ha, ofInt64 b hb, IntKind.wrap_i64]
  omega
theorem xor64 (a b : Nat) (ha : a < 9223372036854775808) (hb : b < 9223372036854775808) : bits .xor .i64 (a : Int) (b : Int) = ((a ^^^ b : Nat) : Int) := by
  have hx : a ^^^ b < 2 ^ 63 := Nat.xor_lt_two_pow (by omega) (by omega)
  show IntKind.i64.wrap ((BitVec.ofInt 64 (a : Int) ^^^ BitVec.ofInt 64 (b : Int)).toNat : Int) = _
  rw [BitVec.toNat_xor, ofInt64 a ha, ofInt64 b hb, IntKind.wrap_i64]
  omega

theorem natcast_beq (a b : Nat) : ((a : Int) == (b : Int)) = (a == b) := by
  rw [Bool.eq_iff_iff, beq_iff_eq, beq_iff_eq]; exact Int.natCast_inj

/-- An int64 as Go has it. -/
def I64 (x : Int) : Prop := -9223372036854775808 ≤ x ∧ x ≤ 9223372036854775807
end Go.Proofs.YtapgpjhogdmjbaaDoor
