/-
  Slices of gates: the words, and the laws' helpers on them: measure, copy, compare. Conditions: sizes up to 2^20.
-/
import Derived.Test.YtjeeffmpfdhppaaRec
namespace Go.Proofs.Ytjeeffmpfdhppaa
open Go.RowKit

structure Gat where
  k : Int
  a : Int
  b : Int
def gatCells : List Gat → List Value
  | [] => []
  | r :: rs => .int .i64 r.k :: .int .i64 r.a :: .int .i64 r.b :: gatCells rs
@[simp] theorem length_gatCells (rs : List Gat) : (gatCells rs).length = rs.length * 3 := by
  induction rs with
  | nil => rfl
  | cons r rs ih => simp [gatCells, ih]; omega
theorem gatCells_get (rs : List Gat) : ∀ {k : Nat} (h : k < rs.length), (gatCells rs)[k * 3]? = some (.int .i64 rs[k].k) ∧ (gatCells rs)[k * 3 + 1]? = some (.int .i64 rs[k].a) ∧ (gatCells rs)[k * 3 + 2]? = some (.int .i64 rs[k].b) := by
  induction rs with
  | nil => intro k h; simp at h
  | cons r rs ih =>
    intro k h
    cases k with
    | zero => simp [gatCells]
    | succ k =>
      have := ih (k := k) (by simpa using h)
      rw [show (k + 1) * 3 = k * 3 + 3 from by omega]
      simpa [gatCells] using this
theorem gatCells_append : ∀ (rs ts : List Gat), gatCells (rs ++ ts) = gatCells rs ++ gatCells ts
  | [], _ => rfl
  | r :: rs, ts => by simp [gatCells, gatCells_append rs ts]
theorem gatCells_one : ∀ (rs : List Gat), ∀ u ∈ gatCells rs, u.oneCell' = true
  | [], u, h => by simp [gatCells] at h
  | r :: rs, u, h => by
    simp only [gatCells, List.mem_cons] at h
    rcases h with rfl | rfl | rfl | h
    · rfl
    · rfl
    · rfl
    · exact gatCells_one rs u h
def Rd_GateS (w : World) (v : Value) (rs : List Gat) : Prop := Rd w 3 v rs.length (gatCells rs)
def I64_GateS (rs : List Gat) : Prop := ∀ r ∈ rs, I64 r.k ∧ I64 r.a ∧ I64 r.b
def Bd_GateS (rs : List Gat) : Prop := rs.length ≤ 1048576
def Own_GateS (w : World) (lo hi : Nat) (v : Value) (rs : List Gat) : Prop := Own w lo 82 3 v rs.length (gatCells rs) ∧ (∀ b, v.ownBlock = some b → b < hi)
section
variable {w w' : World} {lo hi : Nat} {v : Value} {rs : List Gat}
theorem Rd_GateS.ext (h : Rd_GateS w v rs) (he : Ext w w') : Rd_GateS w' v rs := Rd.ext h he
theorem Rd_GateS.form (h : Rd_GateS w v rs) : ∃ A c, v = .slice A rs.length c ∧ rs.length ≤ c ∧ c ≤ maxLen ∧ Hid (Rd_GateS w (.slice A rs.length c) rs) := by
  have h' := h
  obtain ⟨hl, A, c, hv, h1, h2, _⟩ := h'
  subst hv
  exact ⟨A, c, rfl, h1, h2, hd h⟩
theorem Rd_GateS.at_ {A : Option Addr} {n c : Nat} (h : Hid (Rd_GateS w (.slice A n c) rs)) {k : Nat} (hk : k < rs.length) : ∃ a, A = some a ∧ w.cell? (a.add (k * 3)) = some (.int .i64 rs[k].k) ∧ w.cell? ⟨(a.add (k * 3)).block, (a.add (k * 3)).off + 1, none⟩ = some (.int .i64 rs[k].a) ∧ w.cell? ⟨(a.add (k * 3)).block, (a.add (k * 3)).off + 2, none⟩ = some (.int .i64 rs[k].b) := by
  obtain ⟨hl, A', c', hv, h1, h2, hc⟩ := h.out
  obtain ⟨g0, g1, g2⟩ := gatCells_get rs hk
  obtain ⟨a, ha, c0⟩ := hc _ _ g0
  obtain ⟨a1, ha1, c1⟩ := hc _ _ g1
  obtain ⟨a2, ha2, c2⟩ := hc _ _ g2
  rw [ha] at ha1 ha2
  injection ha1 with ha1; injection ha2 with ha2
  subst ha1; subst ha2
  injection hv with hA _ _
  exact ⟨a, hA.trans ha, c0, off_cell c1, off_cell2 c2⟩
theorem Own_GateS.ext (h : Own_GateS w lo hi v rs) (he : Ext w w') : Own_GateS w' lo hi v rs := ⟨own_ext h.1 he, h.2⟩
theorem Own_GateS.rd (h : Own_GateS w lo hi v rs) : Rd_GateS w v rs := own_rd h.1
theorem Own_GateS.touch {lo' hi' : Nat} (h : Own_GateS w lo hi v rs) (ht : Touch lo' hi' w w') (hd : hi ≤ lo' ∨ hi' ≤ lo) : Own_GateS w' lo hi v rs :=
  ⟨own_touch h.1 ht fun b hb => by have := h.2 b hb; have := (own_blocks h.1 b hb).1; omega, h.2⟩
end
def sz_GateS (rs : List Gat) (left : Int) : Int := szI rs.length left
theorem sz_GateS_bd (rs : List Gat) (left : Int) (h : left ≤ 1048576) : -1 ≤ sz_GateS rs left ∧ sz_GateS rs left ≤ 1048576 := szI_bd _ _ h
theorem sz_GateS_ok {rs : List Gat} {left : Int} (h : ¬ sz_GateS rs left < 0) (hl : left ≤ 1048576) : Bd_GateS rs := by
  have := (szI_ok' h).1
  unfold Bd_GateS
  omega
theorem info_gate : (Try.prog.info? 82).map (fun i => (i.zero, i.size, i.bytes)) = some (some (.agg #[.int .i64 0, .int .i64 0, .int .i64 0]), 3, 24) := by kernel_rfl
theorem splice_cells3 {X Z : List Value} {k n : Nat} (hX : X.length = n * 3) (hZ : Z.length = n * 3) (_ : k < n) {x0 x1 x2 : Value} (h0 : X[k * 3]? = some x0) (h1 : X[k * 3 + 1]? = some x1) (h2 : X[k * 3 + 2]? = some x2) :
    (((X.take (k * 3) ++ Z.drop (k * 3)).set (k * 3) x0).set (k * 3 + 1) x1).set (k * 3 + 2) x2 = X.take ((k + 1) * 3) ++ Z.drop ((k + 1) * 3) := by
  rw [splice_set h0 (by omega), splice_set h1 (by omega), splice_set h2 (by omega)]
  rw [show (k + 1) * 3 = k * 3 + 1 + 1 + 1 from by omega]
theorem u_sz_GateS (rs : List Gat) (v : Value) (left : Int) (w : World) (h : Rd_GateS w v rs) (h2 : 0 ≤ left) (h3 : left ≤ 1048576) : Calls Try.prog 13 #[v, .int .i64 left] w (RetX w (.int .i64 (sz_GateS rs left))) := by
  obtain ⟨A, c, rfl, h1, h4, ha⟩ := h.form
  clear h
  unfold maxLen at h4
  go_enter Try.func13, Try.ntmps13
  by_cases h : left - (rs.length : Int) < 0
  all_goals
    go_wp2
    go_ret
    exact RetX.mk (by unfold sz_GateS szI; first | rw [if_pos (by omega)]; rfl | rw [if_neg (by omega)]; rfl) (Ext.refl _)
set_option maxHeartbeats 800000 in
theorem l_toGate (x y z : Int) (w : World) :
    Calls Try.prog 59 #[.agg #[.int .i64 x, .int .i64 y, .int .i64 z]] w (RetX w (.agg #[.int .i64 x, .int .i64 y, .int .i64 z])) := by
  go_enter Try.func59, Try.ntmps59
  go_wp2
  exact bodyPost_ret (v := .agg #[.int .i64 x, .int .i64 y, .int .i64 z]) (by simp [results, Try.results59, go_sem]) rfl (RetX.mk rfl (((Ext.new _ _).alloc _).alloc _))
set_option maxHeartbeats 800000 in
theorem l_eqGate (x y z : Int) (w : World) :
    Calls Try.prog 65 #[.agg #[.int .i64 x, .int .i64 y, .int .i64 z], .agg #[.int .i64 x, .int .i64 y, .int .i64 z]] w (RetX w (.bool true)) := by
  go_enter Try.func65, Try.ntmps65
  go_wp2
  go_ret
  exact RetX.mk rfl ((Ext.new _ _).alloc _)
set_option maxRecDepth 100000 in
set_option maxHeartbeats 1600000 in
theorem l_toGateS (rs : List Gat) (v : Value) (w : World) (h : Rd_GateS w v rs) (hl : rs.length ≤ 1048576) :
    Calls Try.prog 16 #[v] w (fun e w' => ∃ u, e = .returned u ∧ Own w' w.heap.size 82 3 u rs.length (gatCells rs) ∧ Ext w w') := by
  obtain ⟨A, c, rfl, h1, h2, ha⟩ := h.form
  obtain ⟨i0, hi, hz0, hz1, hz2⟩ := info_parts info_gate
  clear h
  go_enter Try.func16, Try.ntmps16
  go_wp2_with (at_make; refine wpList_make_full _ rfl _ _ 33 rfl w.heap.size 82 i0 (.agg #[.int .i64 0, .int .i64 0, .int .i64 0]) 3 Try.underlying33 hi hz0 hz1 _ _ _ _ rs.length rfl rfl rfl rfl (by rw [hz2]; omega) (by unfold maxLen; omega) (Nat.le_refl _) ?_; intro w1 hown1 hgrow1)
  have hE : Ext w w1 := (Ext.refl w).grown hgrow1 (Nat.le_refl _) (by simp)
  have hZ : (madeCells (Value.agg #[.int .i64 0, .int .i64 0, .int .i64 0]).cells (rs.length * 3)).toList.length = rs.length * 3 := by simp [size_madeCells]
  generalize (madeCells (Value.agg #[.int .i64 0, .int .i64 0, .int .i64 0]).cells (rs.length * 3)).toList = Z at *
  have HZ := hd hZ
  clear hgrow1 hZ hi hz0 hz1 hz2
  go_loopw [4] (fun i wr => ∃ k : Nat, k ≤ rs.length ∧ i = .int .i64 k ∧ Own wr w.heap.size 82 3 (.slice (some ⟨w.heap.size, 0, none⟩) rs.length rs.length) rs.length ((gatCells rs).take (k * 3) ++ Z.drop (k * 3)) ∧ Ext w wr) (fun i _ => rs.length - (intOf i).toNat)
  case atStart => exact ⟨0, by omega, rfl, by simpa using hown1, hE⟩
  case round =>
    clear hown1 hE
    obtain ⟨k, hk, rfl, ho, hx⟩ := hrel
    by_cases hlt : k < rs.length
    · obtain ⟨a, rfl, d0, d1, d2⟩ := Rd_GateS.at_ ha hlt
      have c0 := hx.cell d0
      have c1 := hx.cell d1
      have c2 := hx.cell d2
      have HF := hd (gatCells_get rs hlt)
      clear d0 d1 d2
      generalize rs[k] = r at *
      obtain ⟨x, y, z⟩ := r
      dsimp only at c0 c1 c2
      have HO := hd ho
      clear ho
      go_wp2_with fail
      refine (l_toGate x y z _).mono ?_
      rintro e w2 ⟨rfl, hx2⟩
      have O2 := hd (own_ext HO.out hx2)
      obtain ⟨⟨u0, s0⟩, f0, st0⟩ := own_storeN O2.out (j := k * 3) (by omega)
      obtain ⟨⟨u1, s1⟩, f1, -⟩ := own_storeN O2.out (j := k * 3 + 1) (by omega)
      obtain ⟨⟨u2, s2⟩, f2, -⟩ := own_storeN O2.out (j := k * 3 + 2) (by omega)
      have HX := hd (hx.trans hx2)
      have HST : Hid (∀ u, Own (((w2.setCell ⟨w.heap.size, k * 3, none⟩ (.int .i64 x)).setCell ⟨w.heap.size, k * 3 + 1, none⟩ (.int .i64 y)).setCell ⟨w.heap.size, k * 3 + 2, none⟩ u) _ _ 3 _ _ _) := hd fun u => (World.ownsRow.stored (World.ownsRow.stored (st0.out (.int .i64 x)) (k * 3 + 1) (.int .i64 y)).1 (k * 3 + 2) u).1
      clear hx hx2 st0 c0 c1 c2
      go_wp2
      go_roundw
      case rel => exact ⟨k + 1, by omega, by go_num, by rw [← splice_cells3 (by simp) HZ.out hlt HF.out.1 HF.out.2.1 HF.out.2.2]; exact HST.out _, ((HX.out.setCell (Nat.le_refl _) _).setCell (Nat.le_refl _) _).setCell (Nat.le_refl _) _⟩
      case measure => simp [intOf]; omega
    · go_wp2
      go_ret
      obtain rfl : k = rs.length := by omega
      rw [List.take_of_length_le (by simp), List.drop_eq_nil_of_le (by rw [HZ.out]; exact Nat.le_refl _), List.append_nil] at ho
      exact ⟨_, rfl, ho, hx⟩
theorem u_to_GateS (rs : List Gat) (v : Value) (w : World) (h : Rd_GateS w v rs) (b : Bd_GateS rs) : Calls Try.prog 16 #[v] w (fun e w' => ∃ u, e = .returned u ∧ Own_GateS w' w.heap.size w'.heap.size u rs ∧ Ext w w') :=
  (l_toGateS rs v w h b).mono fun _ _ ⟨u, h1, h2, h3⟩ => ⟨u, h1, ⟨h2, own_lt h2⟩, h3⟩
set_option maxRecDepth 100000 in
set_option maxHeartbeats 800000 in
theorem u_eq_GateS (rs : List Gat) (v v' : Value) (w : World) (h : Rd_GateS w v rs) (h' : Rd_GateS w v' rs) (hl : Bd_GateS rs) :
    Calls Try.prog 20 #[v, v'] w (RetX w (.bool true)) := by
  obtain ⟨A, c, rfl, h1, h2, ha⟩ := h.form
  obtain ⟨A', c', rfl, h1', h2', ha'⟩ := h'.form
  clear h h'
  unfold Bd_GateS at hl
  go_enter Try.func20, Try.ntmps20
  go_wp2
  go_loopw [5] (fun i wr => ∃ k : Nat, k ≤ rs.length ∧ i = .int .i64 k ∧ Ext w wr) (fun i _ => rs.length - (intOf i).toNat)
  case atStart => exact ⟨0, by omega, rfl, Ext.refl _⟩
  case round =>
    obtain ⟨k, hk, rfl, hx⟩ := hrel
    by_cases hlt : k < rs.length
    · obtain ⟨a, rfl, d0, d1, d2⟩ := Rd_GateS.at_ ha hlt
      obtain ⟨a', rfl, g0, g1, g2⟩ := Rd_GateS.at_ ha' hlt
      have c0 := hx.cell d0
      have c1 := hx.cell d1
      have c2 := hx.cell d2
      have b0 := hx.cell g0
      have b1 := hx.cell g1
      have b2 := hx.cell g2
      have HX := hd hx
      clear d0 d1 d2 g0 g1 g2 hx
      generalize rs[k] = r at *
      obtain ⟨x, y, z⟩ := r
      dsimp only at c0 c1 c2 b0 b1 b2
      have e1 : (0 : Int) ≤ (k : Int) := by omega
      have e2 : (k : Int) < (rs.length : Int) := by omega
      go_wp2_with fail
      go_region_held3 (fun w' => (w'.cell? (a.add (k * 3)) = some (.int .i64 x) ∧ w'.cell? ⟨(a.add (k * 3)).block, (a.add (k * 3)).off + 1, none⟩ = some (.int .i64 y) ∧ w'.cell? ⟨(a.add (k * 3)).block, (a.add (k * 3)).off + 2, none⟩ = some (.int .i64 z) ∧ w'.cell? (a'.add (k * 3)) = some (.int .i64 x) ∧ w'.cell? ⟨(a'.add (k * 3)).block, (a'.add (k * 3)).off + 1, none⟩ = some (.int .i64 y) ∧ w'.cell? ⟨(a'.add (k * 3)).block, (a'.add (k * 3)).off + 2, none⟩ = some (.int .i64 z)) ∧ Ext wr w')
        ((refine ⟨⟨Ext.cell ?_ c0, Ext.cell ?_ c1, Ext.cell ?_ c2, Ext.cell ?_ b0, Ext.cell ?_ b1, Ext.cell ?_ b2⟩, ?_⟩ <;> (repeat (first | assumption | exact Ext.refl _ | apply Ext.drew | exact Ext.trans (Ext.drew (Ext.refl _)) hx2))))
        (first | (go_at_call 65; refine (l_eqGate x y z _).mono ?_; rintro e w2 ⟨rfl, hx2⟩))
      have HX2 := hd (HX.out.trans ((Ext.refl _).drew.trans hx2))
      clear hx2
      go_wp2
      go_roundw
      case rel => exact ⟨k + 1, by omega, by go_num, HX2.out⟩
      case measure => simp [intOf]; omega
    · go_wp2
      go_ret
      exact RetX.mk rfl hx
end Go.Proofs.Ytjeeffmpfdhppaa
