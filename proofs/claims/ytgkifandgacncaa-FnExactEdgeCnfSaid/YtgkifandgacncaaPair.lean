/-
  Slices of pairs of numbers: the words, and the laws' helpers on them. Conditions: lengths up to 2^29.
-/
import Derived.Test.YtgkifandgacncaaApp
namespace Go.Proofs.Ytgkifandgacncaa
open Go.RowKit

section
variable {ops : Array Oper} {rest : List Oper} {o : Oper} {a : Act} {Q : Exit → Act → World → Prop}
/-- append(v, u), numbers, where the walk has reckoned the number of the new block. -/
theorem appIn (w : World) {nb : Nat} {v : Value} {xs : List Int} {base : Nat} (hown : OwnI w base 3 v xs) (hgd : o.guard = none) (s x : Operand)
    (ho : o.op = .call { callee := .builtin .append, args := #[s, x], argTypes := #[23, 23] })
    (u : Int) (hs : a.eval s = v) (hx : a.eval x = .slice (some ⟨nb, 0, none⟩) 1 1) (hnb : w.heap.size = nb) (hn : xs.length ≤ 1073741824) (hbase : base ≤ w.heap.size)
    (h : ∀ v' w', OwnI w' base 3 v' (xs ++ [u]) → (w.alloc (.cells #[.int .i64 u] 3)).grownBy w' v.ownBlock → (v'.ownBlock = v.ownBlock ∨ v'.ownBlock = some (w.heap.size + 1)) → wpList Try.prog ops Q rest (a.put o.dst v') w') :
    wpList Try.prog ops Q (o :: rest) a (w.alloc (.cells #[.int .i64 u] 3)) := by
  subst hnb
  exact appI w hown hgd s x ho u hs hx hn hbase h
end
/-! ### Blocks of three cells, known whole -/
section
variable {w w' : World} {b : Nat} {x y z u : Value} {e : TypeId}
theorem blk3 (h : w.heap[b]? = some (.cells #[x, y, z] e)) : w.cell? ⟨b, 0, none⟩ = some x ∧ w.cell? ⟨b, 1, none⟩ = some y ∧ w.cell? ⟨b, 2, none⟩ = some z := by
  simp [World.cell?, h]
theorem blk3f (h : w.heap[b]? = some (.cells #[x, y, z] e)) : w.frozen? ⟨b, 0, none⟩ = false ∧ w.frozen? ⟨b, 1, none⟩ = false ∧ w.frozen? ⟨b, 2, none⟩ = false := by
  simp [World.frozen?, h]
theorem blk3_set0 (h : w.heap[b]? = some (.cells #[x, y, z] e)) : (w.setCell ⟨b, 0, none⟩ u).heap[b]? = some (.cells #[u, y, z] e) := by
  simp [World.setCell, Array.getElem?_modify, h]
theorem blk3_set1 (h : w.heap[b]? = some (.cells #[x, y, z] e)) : (w.setCell ⟨b, 1, none⟩ u).heap[b]? = some (.cells #[x, u, z] e) := by
  simp [World.setCell, Array.getElem?_modify, h]
theorem blk3_set2 (h : w.heap[b]? = some (.cells #[x, y, z] e)) : (w.setCell ⟨b, 2, none⟩ u).heap[b]? = some (.cells #[x, y, u] e) := by
  simp [World.setCell, Array.getElem?_modify, h]
theorem blk2 (h : w.heap[b]? = some (.cells #[x, y] e)) : w.cell? ⟨b, 0, none⟩ = some x ∧ w.cell? ⟨b, 1, none⟩ = some y := by
  simp [World.cell?, h]
theorem blk2f (h : w.heap[b]? = some (.cells #[x, y] e)) : w.frozen? ⟨b, 0, none⟩ = false ∧ w.frozen? ⟨b, 1, none⟩ = false := by
  simp [World.frozen?, h]
theorem blk2_set0 (h : w.heap[b]? = some (.cells #[x, y] e)) : (w.setCell ⟨b, 0, none⟩ u).heap[b]? = some (.cells #[u, y] e) := by
  simp [World.setCell, Array.getElem?_modify, h]
theorem blk2_set1 (h : w.heap[b]? = some (.cells #[x, y] e)) : (w.setCell ⟨b, 1, none⟩ u).heap[b]? = some (.cells #[x, u] e) := by
  simp [World.setCell, Array.getElem?_modify, h]
theorem blk_other {p : Addr} {o : Obj} (h : w.heap[b]? = some o) (hne : p.block ≠ b) : (w.setCell p u).heap[b]? = some o := (Below.heap_setCell w p u b (fun e => hne e.symm)).trans h
theorem blk_new (o : Obj) (hb : w.heap.size = b) : (w.alloc o).heap[b]? = some o := by subst hb; exact heap_alloc_new w o
theorem blk_old {o o' : Obj} (h : w.heap[b]? = some o) : (w.alloc o').heap[b]? = some o := (Below.heap_alloc w o' b (Array.getElem?_eq_some_iff.1 h).1).trans h
end
theorem blk_lt {w : World} {b : Nat} {o : Obj} (h : w.heap[b]? = some o) : b < w.heap.size := (Array.getElem?_eq_some_iff.1 h).1
def flat2 : List (Int × Int) → List Int
  | [] => []
  | e :: r => e.1 :: e.2 :: flat2 r
@[simp] theorem length_flat2 (es : List (Int × Int)) : (flat2 es).length = es.length * 2 := by
  induction es with
  | nil => rfl
  | cons e r ih => simp [flat2, ih]; omega
theorem flat2_get (es : List (Int × Int)) : ∀ {k : Nat} (h : k < es.length), (flat2 es)[k * 2]? = some es[k].1 ∧ (flat2 es)[k * 2 + 1]? = some es[k].2 := by
  induction es with
  | nil => intro k h; simp at h
  | cons e r ih =>
    intro k h
    cases k with
    | zero => simp [flat2]
    | succ k =>
      have := ih (k := k) (by simpa using h)
      rw [show (k + 1) * 2 = k * 2 + 2 from by omega]
      simpa [flat2] using this
theorem flat2_append (a b : List (Int × Int)) : flat2 (a ++ b) = flat2 a ++ flat2 b := by
  induction a with
  | nil => rfl
  | cons e r ih => simp [flat2, ih]
/-- The slice value v of n elements of s numbers each reads as the list of numbers xs. -/
def RdN (w : World) (s : Nat) (v : Value) (n : Nat) (xs : List Int) : Prop := Rd w s v n (ints xs)
def OwnN (w : World) (base : Nat) (e : TypeId) (s : Nat) (v : Value) (n : Nat) (xs : List Int) : Prop := Own w base e s v n (ints xs)
section
variable {w w' : World} {s n : Nat} {v : Value} {xs : List Int} {base : Nat} {e : TypeId}
theorem RdN.ext (h : RdN w s v n xs) (he : Ext w w') : RdN w' s v n xs := Rd.ext h he
theorem OwnN.ext (h : OwnN w base e s v n xs) (he : Ext w w') : OwnN w' base e s v n xs := own_ext h he
theorem OwnN.rd (h : OwnN w base e s v n xs) : RdN w s v n xs := own_rd h
theorem RdN.len (h : RdN w s v n xs) : xs.length = n * s := by have := h.1; simpa using this
theorem RdN.form (h : RdN w s v n xs) : ∃ A c, v = .slice A n c ∧ n ≤ c ∧ c ≤ maxLen ∧ Hid (RdN w s (.slice A n c) n xs) := by
  have h' := h
  obtain ⟨hl, A, c, hv, h1, h2, _⟩ := h'
  subst hv
  exact ⟨A, c, rfl, h1, h2, hd h⟩
theorem RdN.at_ {A : Option Addr} {n' c : Nat} (h : Hid (RdN w s (.slice A n' c) n xs)) {k : Nat} {x : Int} (hk : xs[k]? = some x) : ∃ a, A = some a ∧ w.cell? (a.add k) = some (.int .i64 x) := by
  obtain ⟨hl, A', c', hv, h1, h2, hc⟩ := h.out
  obtain ⟨a, ha, hcell⟩ := hc k (.int .i64 x) (by simp [ints, hk])
  injection hv with hA _ _
  exact ⟨a, hA.trans ha, hcell⟩
theorem off_cell {w : World} {a : Addr} {i : Nat} {u : Value} (h : w.cell? (a.add (i + 1)) = some u) : w.cell? ⟨(a.add i).block, (a.add i).off + 1, none⟩ = some u := by
  have e : (⟨(a.add i).block, (a.add i).off + 1, none⟩ : Addr) = a.add (i + 1) := by
    unfold Addr.add
    by_cases hi : i = 0 <;> simp [hi, Nat.add_assoc]
  rw [e]; exact h
theorem off_cell2 {w : World} {a : Addr} {i : Nat} {u : Value} (h : w.cell? (a.add (i + 2)) = some u) : w.cell? ⟨(a.add i).block, (a.add i).off + 2, none⟩ = some u := by
  have e : (⟨(a.add i).block, (a.add i).off + 2, none⟩ : Addr) = a.add (i + 2) := by
    unfold Addr.add
    by_cases hi : i = 0 <;> simp [hi, Nat.add_assoc]
  rw [e]; exact h
theorem add_add (a : Addr) (i j : Nat) : (a.add i).add j = a.add (i + j) := by
  unfold Addr.add
  by_cases hi : i = 0 <;> by_cases hj : j = 0 <;> simp [hi, hj, Nat.add_assoc]
end
/-- The slice value v reads as the list of pairs es. -/
def RdP (w : World) (v : Value) (es : List (Int × Int)) : Prop := RdN w 2 v es.length (flat2 es)
def OwnP (w : World) (base : Nat) (e : TypeId) (v : Value) (es : List (Int × Int)) : Prop := OwnN w base e 2 v es.length (flat2 es)
section
variable {w w' : World} {v : Value} {es : List (Int × Int)} {base : Nat} {e : TypeId}
theorem RdP.ext (h : RdP w v es) (he : Ext w w') : RdP w' v es := Rd.ext h he
theorem OwnP.ext (h : OwnP w base e v es) (he : Ext w w') : OwnP w' base e v es := own_ext h he
theorem OwnP.rd (h : OwnP w base e v es) : RdP w v es := own_rd h
theorem RdP.form (h : RdP w v es) : ∃ A c, v = .slice A es.length c ∧ es.length ≤ c ∧ c ≤ maxLen ∧ Hid (RdP w (.slice A es.length c) es) := RdN.form h
theorem RdP.at_ {A : Option Addr} {n c : Nat} (h : Hid (RdP w (.slice A n c) es)) {k : Nat} (hk : k < es.length) : ∃ a, A = some a ∧ w.cell? (a.add (k * 2)) = some (.int .i64 es[k].1) ∧ w.cell? ⟨(a.add (k * 2)).block, (a.add (k * 2)).off + 1, none⟩ = some (.int .i64 es[k].2) := by
  obtain ⟨a, ha, h1⟩ := RdN.at_ (s := 2) (n := es.length) h (flat2_get es hk).1
  obtain ⟨a', ha', h2⟩ := RdN.at_ (s := 2) (n := es.length) h (flat2_get es hk).2
  rw [ha] at ha'
  injection ha' with ha'
  subst ha'
  exact ⟨a, ha, h1, off_cell h2⟩
end
theorem OwnP.form {w : World} {v : Value} {es : List (Int × Int)} {base : Nat} {e : TypeId} (h : OwnP w base e v es) : ∃ A c, v = .slice A es.length c ∧ Hid (OwnP w base e (.slice A es.length c) es) := by
  obtain ⟨A, c, rfl, _⟩ := h.rd.form
  exact ⟨A, c, rfl, hd h⟩
set_option maxHeartbeats 800000 in
theorem l_toIntA2 (x y : Int) (w : World) : Calls Try.prog 53 #[.agg #[.int .i64 x, .int .i64 y]] w (RetX w (.agg #[.int .i64 x, .int .i64 y])) := by
  go_enter Try.func53, Try.ntmps53
  go_wp2
  refine wp_loop_rounds 3 ?_
  rw [rounds_succ]
  go_wp2
  rw [rounds_succ]
  go_wp2
  rw [rounds_succ]
  go_wp2
  exact bodyPost_ret (v := .agg #[.int .i64 x, .int .i64 y]) (by simp [results, Try.results53, go_sem]) rfl (RetX.mk rfl (((Ext.new _ _).alloc _).alloc _))
set_option maxHeartbeats 800000 in
theorem l_eqIntA2 (x y : Int) (w : World) : Calls Try.prog 56 #[.agg #[.int .i64 x, .int .i64 y], .agg #[.int .i64 x, .int .i64 y]] w (RetX w (.bool true)) := by
  go_enter Try.func56, Try.ntmps56
  go_wp2
  refine wp_loop_rounds 3 ?_
  rw [rounds_succ]
  go_wp2_with fail
  go_quiet (fail)
  go_wp2
  rw [rounds_succ]
  go_wp2_with fail
  go_quiet (fail)
  go_wp2
  rw [rounds_succ]
  go_wp2
  go_ret
  exact RetX.mk rfl (((Ext.new _ _).alloc _).drewN _)
theorem info_pair : (Try.prog.info? 73).map (fun i => (i.zero, i.size, i.bytes)) = some (some (.agg #[.int .i64 0, .int .i64 0]), 2, 16) := by kernel_rfl
/-- Pair after pair is written. -/
theorem splice2 {X Z : List Int} {k n : Nat} (hX : X.length = n * 2) (hZ : Z.length = n * 2) {x y : Int} (hk : k < n) (hx : X[k * 2]? = some x) (hy : X[k * 2 + 1]? = some y) :
    ((X.take (k * 2) ++ Z.drop (k * 2)).set (k * 2) x).set (k * 2 + 1) y = X.take ((k + 1) * 2) ++ Z.drop ((k + 1) * 2) := by
  have _ := hk
  rw [splice_set hx (by omega), splice_set hy (by omega)]
  rw [show (k + 1) * 2 = k * 2 + 1 + 1 from by omega]
theorem ints_set (xs : List Int) (k : Nat) (x : Int) : (ints xs).set k (.int .i64 x) = ints (xs.set k x) := by simp [ints, List.map_set]
theorem own_storeN {w : World} {base : Nat} {e : TypeId} {s g n cap : Nat} {cs : List Value} (h : Own w base e s (.slice (some ⟨g, 0, none⟩) n cap) n cs) {j : Nat} (hj : j < n * s) :
    (∃ u0, w.cell? ⟨g, j, none⟩ = some u0) ∧ w.frozen? ⟨g, j, none⟩ = false ∧ Hid (∀ u, Own (w.setCell ⟨g, j, none⟩ u) base e s (.slice (some ⟨g, 0, none⟩) n cap) n (cs.set j u)) := by
  refine ⟨?_, World.ownsRow.frozenAt h j, hd fun u => (World.ownsRow.stored h j u).1⟩
  have := World.ownsRow.cellAt h j hj
  have hl : j < cs.length := by have := h.1; omega
  rw [List.getElem?_eq_getElem hl] at this
  exact ⟨_, this⟩
theorem made2 (n : Nat) : ∃ Z : List Int, (madeCells (Value.agg #[.int .i64 0, .int .i64 0]).cells (n * 2)).toList = ints Z ∧ Z.length = n * 2 := by
  refine ⟨List.replicate (n * 2) 0, ?_, by simp⟩
  apply List.ext_getElem
  · simp [madeCells]
  intro j h1 h2
  simp only [ints, madeCells, Array.toList_map, Array.toList_range, List.getElem_map, List.getElem_range, List.getElem_replicate]
  rcases Nat.mod_two_eq_zero_or_one j with h | h <;> simp [Value.cells, h]
set_option maxHeartbeats 800000 in
theorem l_toIntA2S (es : List (Int × Int)) (v : Value) (w : World) (h : RdP w v es) (hl : es.length ≤ 536870912) :
    Calls Try.prog 23 #[v] w (fun e w' => ∃ u, e = .returned u ∧ OwnP w' w.heap.size 73 u es ∧ Ext w w') := by
  obtain ⟨A, c, rfl, h1, h2, ha⟩ := h.form
  obtain ⟨i0, hi, hz0, hz1, hz2⟩ := info_parts info_pair
  clear h
  go_enter Try.func23, Try.ntmps23
  go_wp2_with (at_make; refine wpList_make_full _ rfl _ _ 22 rfl w.heap.size 73 i0 (.agg #[.int .i64 0, .int .i64 0]) 2 Try.underlying22 hi hz0 hz1 _ _ _ _ es.length rfl rfl rfl rfl (by rw [hz2]; omega) (by unfold maxLen; omega) (Nat.le_refl _) ?_; intro w1 hown1 hgrow1)
  have hE : Ext w w1 := (Ext.refl w).grown hgrow1 (Nat.le_refl _) (by simp)
  have hZ : ∃ Z : List Int, (madeCells (Value.agg #[.int .i64 0, .int .i64 0]).cells (es.length * 2)).toList = ints Z ∧ Z.length = es.length * 2 := made2 _
  obtain ⟨Z, hZ1, hZ2⟩ := hZ
  rw [hZ1] at hown1
  have HZ := hd hZ2
  clear hgrow1 hZ1 hZ2 hi hz0 hz1 hz2
  go_loopw [4] (fun i wr => ∃ k : Nat, k ≤ es.length ∧ i = .int .i64 k ∧ Own wr w.heap.size 73 2 (.slice (some ⟨w.heap.size, 0, none⟩) es.length es.length) es.length (ints ((flat2 es).take (k * 2) ++ Z.drop (k * 2))) ∧ Ext w wr) (fun i _ => es.length - (intOf i).toNat)
  case atStart => exact ⟨0, by omega, rfl, by simpa using hown1, hE⟩
  case round =>
    clear hown1 hE
    obtain ⟨k, hk, rfl, ho, hx⟩ := hrel
    by_cases hlt : k < es.length
    · obtain ⟨a, rfl, hc0, hc1⟩ := RdP.at_ ha hlt
      have hc := hx.cell hc0
      have hc' := hx.cell hc1
      have HF := hd (flat2_get es hlt)
      clear hc0 hc1
      generalize es[k] = e at *
      obtain ⟨x, y⟩ := e
      have HO := hd ho
      clear ho
      go_wp2_with fail
      refine (l_toIntA2 x y _).mono ?_
      rintro e w2 ⟨rfl, hx2⟩
      obtain ⟨⟨u0, hs0⟩, hf0, hst0⟩ := own_storeN (own_ext HO.out hx2) (j := k * 2) (by omega)
      obtain ⟨⟨u1, hs1⟩, hf1, -⟩ := own_storeN (own_ext HO.out hx2) (j := k * 2 + 1) (by omega)
      have HX := hd (hx.trans hx2)
      have HST : Hid (∀ u, Own ((w2.setCell ⟨w.heap.size, k * 2, none⟩ (.int .i64 x)).setCell ⟨w.heap.size, k * 2 + 1, none⟩ u) _ _ 2 _ _ _) := hd fun u => (World.ownsRow.stored (hst0.out (.int .i64 x)) (k * 2 + 1) u).1
      clear hx hx2 hst0 hc hc'
      go_wp2
      go_roundw
      case rel => exact ⟨k + 1, by omega, by go_num, by rw [← splice2 (by simp) HZ.out hlt HF.out.1 HF.out.2, ← ints_set, ← ints_set]; exact HST.out _, (HX.out.setCell (Nat.le_refl _) _).setCell (Nat.le_refl _) _⟩
      case measure => simp [intOf]; omega
    · go_wp2
      go_ret
      obtain rfl : k = es.length := by omega
      rw [List.take_of_length_le (by simp), List.drop_eq_nil_of_le (by rw [HZ.out]; exact Nat.le_refl _), List.append_nil] at ho
      exact ⟨_, rfl, ho, hx⟩
theorem rx_q {w : World} {n : Nat} {e : Ending} {v : Value} {w' : World} (h : RetX (w.drewN n) v e w') : e = .returned v ∧ Ext w w' := ⟨h.1, ((Ext.refl w).drewN n).trans h.2⟩
set_option maxHeartbeats 800000 in
theorem l_eqIntA2S (es : List (Int × Int)) (v v' : Value) (w : World) (h : RdP w v es) (h' : RdP w v' es) (hl : es.length ≤ 536870912) :
    Calls Try.prog 30 #[v, v'] w (RetX w (.bool true)) := by
  obtain ⟨A, c, rfl, h1, h2, ha⟩ := h.form
  obtain ⟨A', c', rfl, h1', h2', ha'⟩ := h'.form
  clear h h'
  go_enter Try.func30, Try.ntmps30
  go_wp2
  go_loopw [5] (fun i wr => ∃ k : Nat, k ≤ es.length ∧ i = .int .i64 k ∧ Ext w wr) (fun i _ => es.length - (intOf i).toNat)
  case atStart => exact ⟨0, by omega, rfl, Ext.refl _⟩
  case round =>
    obtain ⟨k, hk, rfl, hx⟩ := hrel
    by_cases hlt : k < es.length
    · obtain ⟨a, rfl, hc0, hc1⟩ := RdP.at_ ha hlt
      obtain ⟨a', rfl, hd0, hd1⟩ := RdP.at_ ha' hlt
      have c0 := hx.cell hc0
      have c1 := hx.cell hc1
      have d0 := hx.cell hd0
      have d1 := hx.cell hd1
      have HX := hd hx
      clear hc0 hc1 hd0 hd1 hx
      generalize es[k] = e at *
      obtain ⟨x, y⟩ := e
      have e1 : (0 : Int) ≤ (k : Int) := by omega
      have e2 : (k : Int) < (es.length : Int) := by omega
      go_wp2_with fail
      go_region_held3 (fun w' => (w'.cell? (a.add (k * 2)) = some (.int .i64 x) ∧ w'.cell? ⟨(a.add (k * 2)).block, (a.add (k * 2)).off + 1, none⟩ = some (.int .i64 y) ∧ w'.cell? (a'.add (k * 2)) = some (.int .i64 x) ∧ w'.cell? ⟨(a'.add (k * 2)).block, (a'.add (k * 2)).off + 1, none⟩ = some (.int .i64 y)) ∧ Ext wr w') ((refine ⟨⟨Ext.cell ?_ c0, Ext.cell ?_ c1, Ext.cell ?_ d0, Ext.cell ?_ d1⟩, ?_⟩ <;> (repeat (first | assumption | exact Ext.refl _ | apply Ext.drew | exact Ext.trans (Ext.drew (Ext.refl _)) hx2)))) (first | (go_at_call 56; refine (l_eqIntA2 x y _).mono ?_; rintro e w2 ⟨rfl, hx2⟩))
      have HX2 := hd (HX.out.trans ((Ext.refl _).drew.trans hx2))
      clear hx2
      go_wp2
      go_roundw
      case rel => exact ⟨k + 1, by omega, by go_num, HX2.out⟩
      case measure => simp [intOf]; omega
    · go_wp2
      go_ret
      exact RetX.mk rfl hx
theorem l_szIntA2S (A : Option Addr) (n c : Nat) (left : Int) (w : World) (h1 : n ≤ 9223372036854775807) (h2 : -1 ≤ left) (h3 : left ≤ 1048576) :
    Calls Try.prog 19 #[.slice A n c, .int .i64 left] w (Ret w (.int .i64 (szI n left))) := by
  go_enter Try.func19, Try.ntmps19
  by_cases h : left - (n : Int) < 0
  all_goals
    go_wp2
    go_ret
    exact Ret.mk (by unfold szI; first | rw [if_pos (by omega)]; rfl | rw [if_neg (by omega)]; rfl)
theorem seqI_getI {k0 : Int} {n k : Nat} (h : k < n) : (seqI k0 n)[k]? = some (k0 + k) := by simp [seqI, h]
theorem seqI_2a {k0 : Int} {n k : Nat} (h : k < n) : (seqI k0 (n * 2))[k * 2]? = some (k0 + (k : Int) * 2) := by rw [seqI_getI (by omega), Int.natCast_mul]; rfl
theorem seqI_2b {k0 : Int} {n k : Nat} (h : k < n) : (seqI k0 (n * 2))[k * 2 + 1]? = some (k0 + (k : Int) * 2 + 1) := by rw [seqI_getI (by omega), Int.natCast_add, Int.natCast_mul, ← Int.add_assoc]; rfl
/-- Blocks of a slice lie from lo on and below hi. -/
def InB (lo hi : Nat) (v : Value) : Prop := ∀ g, v.ownBlock = some g → lo ≤ g ∧ g < hi
set_option maxHeartbeats 800000 in
theorem l_markIntA2S (es : List (Int × Int)) (v : Value) (k0 : Int) (w : World) (lo : Nat) (h : OwnP w lo 73 v es) (hl : es.length ≤ 536870912) (hk0 : 0 ≤ k0) (hk1 : k0 ≤ 1152921504606846976) :
    Calls Try.prog 32 #[v, .int .i64 k0] w fun e w' => e = .returned (.int .i64 (k0 + es.length * 2)) ∧ OwnN w' lo 73 2 v es.length (seqI k0 (es.length * 2)) ∧ w.grownBy w' v.ownBlock := by
  rcases own_form h with ⟨rfl, hn, _⟩ | ⟨g, cap, rfl, hb, hg, hnc, hcm⟩
  · have hx : es = [] := List.eq_nil_of_length_eq_zero hn
    subst hx
    clear h hn
    go_enter Try.func32, Try.ntmps32
    go_wp2
    refine wp_loop_rounds 1 ?_; rw [rounds_succ]; go_wp2
    go_ret
    exact ⟨by simp, own_nil _ _ _ _, grown_refl _ _⟩
  · have HF := hd (length_flat2 es)
    unfold OwnP OwnN at *
    generalize flat2 es = xs at *
    generalize es.length = n at *
    have HO0 := hd h
    clear h
    go_enter Try.func32, Try.ntmps32
    go_wp2
    go_loopw [5, 6, 1] (fun i _ m wr => ∃ k : Nat, k ≤ n ∧ i = .int .i64 k ∧ m = .int .i64 (k0 + k * 2) ∧ Own wr lo 73 2 (.slice (some ⟨g, 0, none⟩) n cap) n (ints ((seqI k0 (n * 2)).take (k * 2) ++ xs.drop (k * 2))) ∧ w.grownBy wr (some g)) (fun i _ _ _ => n - (intOf i).toNat)
    case atStart => exact ⟨0, by omega, rfl, by simp, by simpa using HO0.out, grown_refl _ _⟩
    case round =>
      clear HO0
      obtain ⟨k, hk, rfl, rfl, ho, hx⟩ := hrel
      by_cases hlt : k < n
      · have HO := hd ho
        obtain ⟨⟨u0, hs0⟩, hf0, hst0⟩ := own_storeN ho (j := k * 2) (by omega)
        obtain ⟨⟨u1, hs1⟩, hf1, -⟩ := own_storeN ho (j := k * 2 + 1) (by omega)
        have HST : Hid (∀ u, Own ((wr.setCell ⟨g, k * 2, none⟩ (.int .i64 (k0 + k * 2))).setCell ⟨g, k * 2 + 1, none⟩ u) _ _ 2 _ _ _) := hd fun u => (World.ownsRow.stored (hst0.out (.int .i64 (k0 + k * 2))) (k * 2 + 1) u).1
        have HG := hd hx
        clear hx ho hst0
        go_wp2
        refine wp_loop_rounds 3 ?_
        rw [rounds_succ]
        go_wp2
        rw [rounds_succ]
        go_wp2
        rw [rounds_succ]
        go_wp2
        go_roundw
        case rel => exact ⟨k + 1, by omega, by go_num, by go_num, by rw [← splice2 (by simp) HF.out hlt (seqI_2a hlt) (seqI_2b hlt), ← ints_set, ← ints_set]; exact HST.out _, grown_set (grown_set HG.out _ _) _ _⟩
        case measure => simp [intOf]; omega
      · go_wp2
        go_ret
        obtain rfl : k = n := by omega
        rw [List.take_of_length_le (by simp), List.drop_eq_nil_of_le (by rw [HF.out]; exact Nat.le_refl _), List.append_nil] at ho
        exact ⟨rfl, ho, hx⟩
end Go.Proofs.Ytgkifandgacncaa
