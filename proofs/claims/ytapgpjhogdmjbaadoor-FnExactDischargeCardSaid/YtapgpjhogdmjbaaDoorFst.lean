/-
  Slices of Frege steps: the words of sizes, copies, likeness and marks. Conditions: sizes up to 2^20, marks up to 10^9.
-/
import Derived.Test.YtapgpjhogdmjbaaDoorMarkT
import Derived.Test.YtapgpjhogdmjbaaDoorRec
import Derived.IntWalk
import Derived.BigQuiet
namespace Go.Proofs.YtapgpjhogdmjbaaDoor
open Go.RowKit
def I64_FregeStepS (rs : List Rec) : Prop := ∀ r ∈ rs, I64 r.sys ∧ I64 r.size ∧ I64 r.extra
def Bd_FregeStepS (rs : List Rec) : Prop := rs.length ≤ 1048576 ∧ ∀ r ∈ rs, r.name.size ≤ 1048576
def sz_FregeStepS (rs : List Rec) (left : Int) : Int := if left - (rs.length : Int) < 0 then -1 else szRgo rs (left - rs.length)
theorem sz_FregeStepS_bd (rs : List Rec) (left : Int) (h : left ≤ 1048576) : -1 ≤ sz_FregeStepS rs left ∧ sz_FregeStepS rs left ≤ 1048576 := by
  unfold sz_FregeStepS
  split
  · omega
  · exact szRgo_bd _ _ (by omega) (by omega)
theorem sz_FregeStepS_ok {rs : List Rec} {left : Int} (h : ¬ sz_FregeStepS rs left < 0) (hl : left ≤ 1048576) : Bd_FregeStepS rs := by
  unfold sz_FregeStepS at h
  split at h
  · omega
  · have := szRgo_le rs (left - rs.length) (by omega)
    exact ⟨by omega, fun r hr => by have := this r hr; omega⟩
theorem l_szFregeStep (r : Rec) (left : Int) (w : World) (h1 : r.name.size ≤ 9223372036854775807) (h2 : -1 ≤ left) (h3 : left ≤ 1048576) :
    Calls Tryd.prog 15 #[.agg #[.string r.name, .int .i64 r.sys, .int .i64 r.size, .int .i64 r.extra], .int .i64 left] w (RetX w (.int .i64 (szI r.name.size left))) := by
  obtain ⟨s, x, y, z⟩ := r
  dsimp only at *
  go_enter Tryd.func15, Tryd.ntmps15
  by_cases h : left - (s.size : Int) < 0
  all_goals
    go_wp2
    go_ret
    exact RetX.mk (by unfold szI; first | rw [if_pos (by omega)]; rfl | rw [if_neg (by omega)]; rfl) (Ext.new _ _)
set_option maxHeartbeats 800000 in
theorem l_szFregeStepS (rs : List Rec) (v : Value) (left : Int) (w : World) (h : RdRec w v rs) (hn : Hid (∀ r ∈ rs, r.name.size ≤ 9223372036854775807)) (hl : 0 ≤ left) (hl' : left ≤ 1048576) :
    Calls Tryd.prog 5 #[v, .int .i64 left] w (RetX w (.int .i64 (sz_FregeStepS rs left))) := by
  obtain ⟨A, c, rfl, h1, h2, ha⟩ := h.form
  clear h
  unfold maxLen at h2
  go_enter Tryd.func5, Tryd.ntmps5
  by_cases h0 : left - (rs.length : Int) < 0
  · go_wp2
    go_ret
    exact RetX.mk (by unfold sz_FregeStepS; rw [if_pos h0]; rfl) (Ext.refl _)
  · have HF : Hid (sz_FregeStepS rs left = szRgo rs (left - rs.length)) := hd (by unfold sz_FregeStepS; rw [if_neg h0])
    go_wp2
    go_loopw [5, 1] (fun i m wr => ∃ (k : Nat) (l : Int), k ≤ rs.length ∧ 0 ≤ l ∧ l ≤ 1048576 ∧ i = .int .i64 k ∧ m = .int .i64 l ∧ Hid (sz_FregeStepS rs left = szRgo (rs.drop k) l) ∧ Ext w wr) (fun i _ _ => rs.length - (intOf i).toNat)
    case atStart => exact ⟨0, _, by omega, by omega, by omega, rfl, rfl, HF, Ext.refl _⟩
    case round =>
      clear HF
      obtain ⟨k, l, hk, hl0, hl1, rfl, rfl, HR, hx⟩ := hrel
      have HX := hd hx
      clear hx
      by_cases hlt : k < rs.length
      · obtain ⟨a, rfl, d0, d1, d2, d3⟩ := RdRec.at_ ha hlt
        have c0 := HX.out.cell d0
        have c1 := HX.out.cell d1
        have c2 := HX.out.cell d2
        have c3 := HX.out.cell d3
        have hnr := hn.out _ (List.getElem_mem hlt)
        rw [drop_cons hlt] at HR
        clear d0 d1 d2 d3
        generalize rs[k] = r at *
        have hbd := szI_bd r.name.size l hl1
        generalize hz : szI r.name.size l = z at *
        have HZ := hd hz
        clear hz
        go_wp2_with fail
        refine (l_szFregeStep r l _ hnr (by omega) (by omega)).mono ?_
        rw [HZ.out]
        rintro e w2 ⟨rfl, hx2⟩
        by_cases hz0 : z < 0
        · obtain rfl : z = -1 := by omega
          go_wp2
          go_ret
          exact RetX.mk (by rw [HR.out]; unfold szRgo; rw [HZ.out, if_pos hz0]; rfl) (HX.out.trans hx2)
        · go_wp2
          go_roundw
          case rel => exact ⟨k + 1, z, by omega, by omega, by omega, by go_num, rfl, hd (by rw [HR.out, szRgo, HZ.out, if_neg (by omega)]), HX.out.trans hx2⟩
          case measure => simp [intOf]; omega
      · go_wp2
        go_ret
        exact RetX.mk (by rw [HR.out, List.drop_eq_nil_of_le (by omega)]; rfl) HX.out
set_option maxHeartbeats 800000 in
theorem l_toFregeStep (r : Rec) (w : World) :
    Calls Tryd.prog 20 #[.agg #[.string r.name, .int .i64 r.sys, .int .i64 r.size, .int .i64 r.extra]] w (RetX w (.agg #[.string r.name, .int .i64 r.sys, .int .i64 r.size, .int .i64 r.extra])) := by
  obtain ⟨s, x, y, z⟩ := r
  dsimp only
  go_enter Tryd.func20, Tryd.ntmps20
  go_wp2
  exact bodyPost_ret (v := .agg #[.string s, .int .i64 x, .int .i64 y, .int .i64 z]) (by simp [results, Tryd.results20, go_sem]) rfl (RetX.mk rfl (((Ext.new _ _).alloc _).alloc _))
set_option maxHeartbeats 800000 in
theorem l_eqFregeStep (r : Rec) (w : World) :
    Calls Tryd.prog 30 #[.agg #[.string r.name, .int .i64 r.sys, .int .i64 r.size, .int .i64 r.extra], .agg #[.string r.name, .int .i64 r.sys, .int .i64 r.size, .int .i64 r.extra]] w (RetX w (.bool true)) := by
  obtain ⟨s, x, y, z⟩ := r
  dsimp only
  go_enter Tryd.func30, Tryd.ntmps30
  go_wp2
  go_ret
  exact RetX.mk rfl ((Ext.new _ _).alloc _)
theorem info_fstep : (Tryd.prog.info? 42).map (fun i => (i.zero, i.size, i.bytes)) = some (some (.agg #[.string .empty, .int .i64 0, .int .i64 0, .int .i64 0]), 4, 40) := by kernel_rfl
theorem splice_cells {X Z : List Value} {k n : Nat} (hX : X.length = n * 4) (hZ : Z.length = n * 4) (_ : k < n) {x0 x1 x2 x3 : Value} (h0 : X[k * 4]? = some x0) (h1 : X[k * 4 + 1]? = some x1) (h2 : X[k * 4 + 2]? = some x2) (h3 : X[k * 4 + 3]? = some x3) :
    ((((X.take (k * 4) ++ Z.drop (k * 4)).set (k * 4) x0).set (k * 4 + 1) x1).set (k * 4 + 2) x2).set (k * 4 + 3) x3 = X.take ((k + 1) * 4) ++ Z.drop ((k + 1) * 4) := by
  rw [splice_set h0 (by omega), splice_set h1 (by omega), splice_set h2 (by omega), splice_set h3 (by omega)]
  rw [show (k + 1) * 4 = k * 4 + 1 + 1 + 1 + 1 from by omega]
set_option maxRecDepth 100000 in
set_option maxHeartbeats 1600000 in
theorem l_toFregeStepS (rs : List Rec) (v : Value) (w : World) (h : RdRec w v rs) (hl : rs.length ≤ 1048576) :
    Calls Tryd.prog 8 #[v] w (fun e w' => ∃ u, e = .returned u ∧ Own w' w.heap.size 42 4 u rs.length (recCells rs) ∧ Ext w w') := by
  obtain ⟨A, c, rfl, h1, h2, ha⟩ := h.form
  obtain ⟨i0, hi, hz0, hz1, hz2⟩ := info_parts info_fstep
  clear h
  go_enter Tryd.func8, Tryd.ntmps8
  go_wp2_with (at_make; refine wpList_make_full _ rfl _ _ 26 rfl w.heap.size 42 i0 (.agg #[.string .empty, .int .i64 0, .int .i64 0, .int .i64 0]) 4 Tryd.underlying26 hi hz0 hz1 _ _ _ _ rs.length rfl rfl rfl rfl (by rw [hz2]; omega) (by unfold maxLen; omega) (Nat.le_refl _) ?_; intro w1 hown1 hgrow1)
  have hE : Ext w w1 := (Ext.refl w).grown hgrow1 (Nat.le_refl _) (by simp)
  have hZ : (madeCells (Value.agg #[.string .empty, .int .i64 0, .int .i64 0, .int .i64 0]).cells (rs.length * 4)).toList.length = rs.length * 4 := by simp [size_madeCells]
  generalize (madeCells (Value.agg #[.string .empty, .int .i64 0, .int .i64 0, .int .i64 0]).cells (rs.length * 4)).toList = Z at *
  have HZ := hd hZ
  clear hgrow1 hZ hi hz0 hz1 hz2
  go_loopw [4] (fun i wr => ∃ k : Nat, k ≤ rs.length ∧ i = .int .i64 k ∧ Own wr w.heap.size 42 4 (.slice (some ⟨w.heap.size, 0, none⟩) rs.length rs.length) rs.length ((recCells rs).take (k * 4) ++ Z.drop (k * 4)) ∧ Ext w wr) (fun i _ => rs.length - (intOf i).toNat)
  case atStart => exact ⟨0, by omega, rfl, by simpa using hown1, hE⟩
  case round =>
    clear hown1 hE
    obtain ⟨k, hk, rfl, ho, hx⟩ := hrel
    by_cases hlt : k < rs.length
    · obtain ⟨a, rfl, d0, d1, d2, d3⟩ := RdRec.at_ ha hlt
      have c0 := hx.cell d0
      have c1 := hx.cell d1
      have c2 := hx.cell d2
      have c3 := hx.cell d3
      have HF := hd (recCells_get rs hlt)
      clear d0 d1 d2 d3
      generalize rs[k] = r at *
      obtain ⟨s, x, y, z⟩ := r
      dsimp only at c0 c1 c2 c3
      have HO := hd ho
      clear ho
      go_wp2_with fail
      refine (l_toFregeStep ⟨s, x, y, z⟩ _).mono ?_
      rintro e w2 ⟨rfl, hx2⟩
      dsimp only
      have O2 := hd (own_ext HO.out hx2)
      obtain ⟨⟨u0, s0⟩, f0, st0⟩ := own_storeN O2.out (j := k * 4) (by omega)
      obtain ⟨⟨u1, s1⟩, f1, -⟩ := own_storeN O2.out (j := k * 4 + 1) (by omega)
      obtain ⟨⟨u2, s2⟩, f2, -⟩ := own_storeN O2.out (j := k * 4 + 2) (by omega)
      obtain ⟨⟨u3, s3⟩, f3, -⟩ := own_storeN O2.out (j := k * 4 + 3) (by omega)
      have HX := hd (hx.trans hx2)
      have HST : Hid (∀ u, Own ((((w2.setCell ⟨w.heap.size, k * 4, none⟩ (.string s)).setCell ⟨w.heap.size, k * 4 + 1, none⟩ (.int .i64 x)).setCell ⟨w.heap.size, k * 4 + 2, none⟩ (.int .i64 y)).setCell ⟨w.heap.size, k * 4 + 3, none⟩ u) _ _ 4 _ _ _) := hd fun u => (World.ownsRow.stored (World.ownsRow.stored (World.ownsRow.stored (st0.out (.string s)) (k * 4 + 1) (.int .i64 x)).1 (k * 4 + 2) (.int .i64 y)).1 (k * 4 + 3) u).1
      clear hx hx2 st0 c0 c1 c2 c3
      go_wp2
      go_roundw
      case rel => exact ⟨k + 1, by omega, by go_num, by rw [← splice_cells (by simp) HZ.out hlt HF.out.1 HF.out.2.1 HF.out.2.2.1 HF.out.2.2.2]; exact HST.out _, (((HX.out.setCell (Nat.le_refl _) _).setCell (Nat.le_refl _) _).setCell (Nat.le_refl _) _).setCell (Nat.le_refl _) _⟩
      case measure => simp [intOf]; omega
    · go_wp2
      go_ret
      obtain rfl : k = rs.length := by omega
      rw [List.take_of_length_le (by simp), List.drop_eq_nil_of_le (by rw [HZ.out]; exact Nat.le_refl _), List.append_nil] at ho
      exact ⟨_, rfl, ho, hx⟩
set_option maxRecDepth 100000 in
set_option maxHeartbeats 800000 in
theorem l_eqFregeStepS (rs : List Rec) (v v' : Value) (w : World) (h : RdRec w v rs) (h' : RdRec w v' rs) (hl : rs.length ≤ 1048576) :
    Calls Tryd.prog 10 #[v, v'] w (RetX w (.bool true)) := by
  obtain ⟨A, c, rfl, h1, h2, ha⟩ := h.form
  obtain ⟨A', c', rfl, h1', h2', ha'⟩ := h'.form
  clear h h'
  go_enter Tryd.func10, Tryd.ntmps10
  go_wp2
  go_loopw [5] (fun i wr => ∃ k : Nat, k ≤ rs.length ∧ i = .int .i64 k ∧ Ext w wr) (fun i _ => rs.length - (intOf i).toNat)
  case atStart => exact ⟨0, by omega, rfl, Ext.refl _⟩
  case round =>
    obtain ⟨k, hk, rfl, hx⟩ := hrel
    by_cases hlt : k < rs.length
    · obtain ⟨a, rfl, d0, d1, d2, d3⟩ := RdRec.at_ ha hlt
      obtain ⟨a', rfl, g0, g1, g2, g3⟩ := RdRec.at_ ha' hlt
      have c0 := hx.cell d0
      have c1 := hx.cell d1
      have c2 := hx.cell d2
      have c3 := hx.cell d3
      have b0 := hx.cell g0
      have b1 := hx.cell g1
      have b2 := hx.cell g2
      have b3 := hx.cell g3
      have HX := hd hx
      clear d0 d1 d2 d3 g0 g1 g2 g3 hx
      generalize rs[k] = r at *
      obtain ⟨s, x, y, z⟩ := r
      dsimp only at c0 c1 c2 c3 b0 b1 b2 b3
      have e1 : (0 : Int) ≤ (k : Int) := by omega
      have e2 : (k : Int) < (rs.length : Int) := by omega
      go_wp2_with fail
      go_region_held3 (fun w' => (w'.cell? (a.add (k * 4)) = some (.string s) ∧ w'.cell? ⟨(a.add (k * 4)).block, (a.add (k * 4)).off + 1, none⟩ = some (.int .i64 x) ∧ w'.cell? ⟨(a.add (k * 4)).block, (a.add (k * 4)).off + 2, none⟩ = some (.int .i64 y) ∧ w'.cell? ⟨(a.add (k * 4)).block, (a.add (k * 4)).off + 3, none⟩ = some (.int .i64 z) ∧ w'.cell? (a'.add (k * 4)) = some (.string s) ∧ w'.cell? ⟨(a'.add (k * 4)).block, (a'.add (k * 4)).off + 1, none⟩ = some (.int .i64 x) ∧ w'.cell? ⟨(a'.add (k * 4)).block, (a'.add (k * 4)).off + 2, none⟩ = some (.int .i64 y) ∧ w'.cell? ⟨(a'.add (k * 4)).block, (a'.add (k * 4)).off + 3, none⟩ = some (.int .i64 z)) ∧ Ext wr w')
        ((refine ⟨⟨Ext.cell ?_ c0, Ext.cell ?_ c1, Ext.cell ?_ c2, Ext.cell ?_ c3, Ext.cell ?_ b0, Ext.cell ?_ b1, Ext.cell ?_ b2, Ext.cell ?_ b3⟩, ?_⟩ <;> (repeat (first | assumption | exact Ext.refl _ | apply Ext.drew | exact Ext.trans (Ext.drew (Ext.refl _)) hx2))))
        (first | (go_at_call 30; refine (l_eqFregeStep ⟨s, x, y, z⟩ _).mono ?_; rintro e w2 ⟨rfl, hx2⟩))
      have HX2 := hd (HX.out.trans ((Ext.refl _).drew.trans hx2))
      clear hx2
      go_wp2
      go_roundw
      case rel => exact ⟨k + 1, by omega, by go_num, HX2.out⟩
      case measure => simp [intOf]; omega
    · go_wp2
      go_ret
      exact RetX.mk rfl hx
def Sm_FregeStepS (rs : List Rec) : Prop := ∀ r ∈ rs, r.name.size ≤ 9223372036854775807
def Rd_FregeStepS (w : World) (v : Value) (rs : List Rec) : Prop := RdRec w v rs ∧ Sm_FregeStepS rs
def Own_FregeStepS (w : World) (lo hi : Nat) (v : Value) (rs : List Rec) : Prop := Own w lo 42 4 v rs.length (recCells rs) ∧ (∀ b, v.ownBlock = some b → b < hi) ∧ Sm_FregeStepS rs
section
variable {w w' : World} {lo hi : Nat} {v : Value} {rs : List Rec}
theorem Rd_FregeStepS.ext (h : Rd_FregeStepS w v rs) (he : Ext w w') : Rd_FregeStepS w' v rs := ⟨h.1.ext he, h.2⟩
theorem Rd_FregeStepS.form (h : Rd_FregeStepS w v rs) : ∃ A c, v = .slice A rs.length c ∧ rs.length ≤ c ∧ c ≤ maxLen ∧ Hid (RdRec w (.slice A rs.length c) rs) := h.1.form
theorem Own_FregeStepS.ext (h : Own_FregeStepS w lo hi v rs) (he : Ext w w') : Own_FregeStepS w' lo hi v rs := ⟨own_ext h.1 he, h.2⟩
theorem Own_FregeStepS.rd (h : Own_FregeStepS w lo hi v rs) : Rd_FregeStepS w v rs := ⟨own_rd h.1, h.2.2⟩
theorem Own_FregeStepS.touch {lo' hi' : Nat} (h : Own_FregeStepS w lo hi v rs) (ht : Touch lo' hi' w w') (hd : hi ≤ lo' ∨ hi' ≤ lo) : Own_FregeStepS w' lo hi v rs :=
  ⟨own_touch h.1 ht fun b hb => by have := h.2.1 b hb; have := (own_blocks h.1 b hb).1; omega, h.2⟩
end
theorem u_sz_FregeStepS (rs : List Rec) (v : Value) (left : Int) (w : World) (h : Rd_FregeStepS w v rs) (h2 : 0 ≤ left) (h3 : left ≤ 1048576) : Calls Tryd.prog 5 #[v, .int .i64 left] w (RetX w (.int .i64 (sz_FregeStepS rs left))) := l_szFregeStepS rs v left w h.1 h.2 h2 h3
theorem u_to_FregeStepS (rs : List Rec) (v : Value) (w : World) (h : Rd_FregeStepS w v rs) (b : Bd_FregeStepS rs) : Calls Tryd.prog 8 #[v] w (fun e w' => ∃ u, e = .returned u ∧ Own_FregeStepS w' w.heap.size w'.heap.size u rs ∧ Ext w w') :=
  (l_toFregeStepS rs v w h.1 b.1).mono fun _ _ ⟨u, h1, h2, h3⟩ => ⟨u, h1, ⟨h2, own_lt h2, h.2⟩, h3⟩
theorem u_eq_FregeStepS (rs : List Rec) (v v' : Value) (w : World) (h : Rd_FregeStepS w v rs) (h' : Rd_FregeStepS w v' rs) (b : Bd_FregeStepS rs) : Calls Tryd.prog 10 #[v, v'] w (RetX w (.bool true)) := l_eqFregeStepS rs v v' w h.1 h'.1 b.1
def mkR : Int → Nat → List Rec
  | _, 0 => []
  | k0, n + 1 => ⟨markT k0, k0 + 1, k0 + 2, k0 + 3⟩ :: mkR (k0 + 4) n
@[simp] theorem length_mkR : ∀ (n : Nat) (k0 : Int), (mkR k0 n).length = n
  | 0, _ => rfl
  | n + 1, k0 => by simp [mkR, length_mkR n]
theorem mkR_get : ∀ (n : Nat) (k0 : Int) (j : Nat) (h : j < (mkR k0 n).length), (mkR k0 n)[j] = ⟨markT (k0 + j * 4), k0 + j * 4 + 1, k0 + j * 4 + 2, k0 + j * 4 + 3⟩
  | 0, _, j, h => by simp at h
  | n + 1, k0, 0, _ => by simp [mkR]
  | n + 1, k0, j + 1, h => by
    have := mkR_get n (k0 + 4) j (by simpa using h)
    simp only [mkR, List.getElem_cons_succ, this]
    rw [show k0 + 4 + (j : Int) * 4 = k0 + ((j + 1 : Nat) : Int) * 4 from by omega]
set_option maxRecDepth 100000 in
set_option maxHeartbeats 3200000 in
theorem l_heldFregeStepS (n : Nat) (v : Value) (k0 : Int) (w : World) (h : RdRec w v (mkR k0 n)) (hl : n ≤ 1048576) (hk0 : 0 ≤ k0) (hk1 : k0 ≤ 1000000000) :
    Calls Tryd.prog 14 #[v, .int .i64 k0] w (RetX w (.int .i64 (k0 + n * 4))) := by
  obtain ⟨A, c, rfl, h1, h2, ha⟩ := h.form
  clear h
  rw [length_mkR] at h1
  have HLN : Hid ((mkR k0 n).length = n) := hd (length_mkR n k0)
  rw [length_mkR] at ha ⊢
  go_enter Tryd.func14, Tryd.ntmps14
  go_wp2
  go_loopw [5, 1] (fun i m wr => ∃ k : Nat, k ≤ n ∧ i = .int .i64 k ∧ m = .int .i64 (k0 + k * 4) ∧ Ext w wr) (fun i _ _ => n - (intOf i).toNat)
  case atStart => exact ⟨0, by omega, rfl, by simp, Ext.refl _⟩
  case round =>
    obtain ⟨k, hk, rfl, rfl, hx⟩ := hrel
    have HX := hd hx
    clear hx
    by_cases hlt : k < n
    · obtain ⟨a, rfl, d0, d1, d2, d3⟩ := RdRec.at_ ha (k := k) (by rw [HLN.out]; exact hlt)
      rw [mkR_get] at d0 d1 d2 d3
      have c0 := HX.out.cell d0
      have c1 := HX.out.cell d1
      have c2 := HX.out.cell d2
      have c3 := HX.out.cell d3
      clear d0 d1 d2 d3
      dsimp only at c0 c1 c2 c3
      go_wp2_with fail
      obtain ⟨tx, htx⟩ : ∃ tx, markT (k0 + k * 4) = tx := ⟨_, rfl⟩
      rw [htx] at c0
      have HT : Hid (Value.string (markT (k0 + k * 4)) = .string tx) := hd (by rw [htx])
      clear htx
      go_region_held3 (fun w' => (w'.cell? (a.add (k * 4)) = some (.string tx) ∧ w'.cell? ⟨(a.add (k * 4)).block, (a.add (k * 4)).off + 1, none⟩ = some (.int .i64 (k0 + k * 4 + 1)) ∧ w'.cell? ⟨(a.add (k * 4)).block, (a.add (k * 4)).off + 2, none⟩ = some (.int .i64 (k0 + k * 4 + 2)) ∧ w'.cell? ⟨(a.add (k * 4)).block, (a.add (k * 4)).off + 3, none⟩ = some (.int .i64 (k0 + k * 4 + 3))) ∧ Ext wr w')
        ((refine ⟨⟨Ext.cell ?_ c0, Ext.cell ?_ c1, Ext.cell ?_ c2, Ext.cell ?_ c3⟩, ?_⟩ <;> (repeat (first | assumption | exact Ext.refl _ | apply Ext.drew | exact Ext.trans (Ext.drew (Ext.refl _)) hx2))))
        (first | (go_at_call 31; (with_reducible refine (rvz (l_markText _ _ (by omega)) HT).mono ?_); rintro e w2 ⟨rfl, hx2⟩))
      have HX2 := hd (HX.out.trans ((Ext.refl _).drew.trans hx2))
      clear hx2
      rename_i hH
      have e1 := hH.1.2.1
      have e2 := hH.1.2.2.1
      have e3 := hH.1.2.2.2
      clear hH c0 c1 c2 c3
      go_wp2
      go_roundw
      case rel => exact ⟨k + 1, by omega, by go_num, by go_num, HX2.out⟩
      case measure => simp [intOf]; omega
    · go_wp2
      go_ret
      obtain rfl : k = n := by omega
      exact RetX.mk rfl HX.out
set_option maxRecDepth 100000 in
set_option maxHeartbeats 3200000 in
theorem l_markFregeStepS (rs : List Rec) (v : Value) (k0 : Int) (w : World) (lo : Nat) (h : Own w lo 42 4 v rs.length (recCells rs)) (hl : rs.length ≤ 1048576) (hk0 : 0 ≤ k0) (hk1 : k0 ≤ 1000000000) (hi : Nat) (hhi : ∀ b, v.ownBlock = some b → b < hi) :
    Calls Tryd.prog 13 #[v, .int .i64 k0] w fun e w' => e = .returned (.int .i64 (k0 + rs.length * 4)) ∧ Own w' lo 42 4 v rs.length (recCells (mkR k0 rs.length)) ∧ Touch lo hi w w' := by
  rcases own_form h with ⟨rfl, hn, _⟩ | ⟨g, cap, rfl, hb, hg, hnc, hcm⟩
  · have hx : rs = [] := List.eq_nil_of_length_eq_zero hn
    subst hx
    clear h hn
    go_enter Tryd.func13, Tryd.ntmps13
    go_wp2
    refine wp_loop_rounds 1 ?_; rw [rounds_succ]; go_wp2
    go_ret
    exact ⟨by simp, own_nil _ _ _ _, Touch.refl _ _ _⟩
  · have hgh := hhi g rfl
    clear hhi
    have HF : Hid ((recCells rs).length = rs.length * 4) := hd (length_recCells rs)
    generalize recCells rs = Z at *
    generalize rs.length = n at *
    have HMF : Hid ((recCells (mkR k0 n)).length = n * 4) := hd (by simp)
    have HMG : Hid (∀ k, k < n → (recCells (mkR k0 n))[k * 4]? = some (.string (markT (k0 + k * 4))) ∧ (recCells (mkR k0 n))[k * 4 + 1]? = some (.int .i64 (k0 + k * 4 + 1)) ∧ (recCells (mkR k0 n))[k * 4 + 2]? = some (.int .i64 (k0 + k * 4 + 1 + 1)) ∧ (recCells (mkR k0 n))[k * 4 + 3]? = some (.int .i64 (k0 + k * 4 + 1 + 1 + 1))) := hd fun k hk => by
      have h1 := recCells_get (mkR k0 n) (k := k) (by simpa using hk)
      rw [mkR_get] at h1
      dsimp only at h1
      rw [show k0 + (k : Int) * 4 + 2 = k0 + k * 4 + 1 + 1 from by omega, show k0 + (k : Int) * 4 + 3 = k0 + k * 4 + 1 + 1 + 1 from by omega] at h1
      exact h1
    generalize recCells (mkR k0 n) = X at *
    have HO0 := hd h
    clear h
    have HGB := hd hb
    have HGH := hd hgh
    clear hb hgh
    go_enter Tryd.func13, Tryd.ntmps13
    go_wp2
    go_loopw [5, 1] (fun i m wr => ∃ k : Nat, k ≤ n ∧ i = .int .i64 k ∧ m = .int .i64 (k0 + k * 4) ∧ Own wr lo 42 4 (.slice (some ⟨g, 0, none⟩) n cap) n (X.take (k * 4) ++ Z.drop (k * 4)) ∧ Touch lo hi w wr) (fun i _ _ => n - (intOf i).toNat)
    case atStart => exact ⟨0, by omega, rfl, by simp, by simpa using HO0.out, Touch.refl _ _ _⟩
    case round =>
      clear HO0
      obtain ⟨k, hk, rfl, rfl, ho, hx⟩ := hrel
      by_cases hlt : k < n
      · have HO := hd ho
        have HX := hd hx
        clear ho hx
        obtain ⟨tx, htx⟩ : ∃ tx, markT (k0 + k * 4) = tx := ⟨_, rfl⟩
        have HT : Hid (Value.string (markT (k0 + k * 4)) = .string tx) := hd (by rw [htx])
        have HG := hd (HMG.out k hlt)
        rw [htx] at HG
        clear htx
        go_wp2_with fail
        refine (rvz (l_markText _ _ (by omega)) HT).mono ?_
        rintro e w2 ⟨rfl, hx2⟩
        have O2 := hd (own_ext HO.out hx2)
        have X2 := hd (HX.out.trans (Touch.of_ext hx2))
        clear hx2
        obtain ⟨⟨u0, s0⟩, f0, st0⟩ := own_storeN O2.out (j := k * 4) (by omega)
        obtain ⟨⟨u1, s1⟩, f1, -⟩ := own_storeN O2.out (j := k * 4 + 1) (by omega)
        obtain ⟨⟨u2, s2⟩, f2, -⟩ := own_storeN O2.out (j := k * 4 + 2) (by omega)
        obtain ⟨⟨u3, s3⟩, f3, -⟩ := own_storeN O2.out (j := k * 4 + 3) (by omega)
        have HST : Hid (∀ u, Own ((((w2.setCell ⟨g, k * 4, none⟩ (.string tx)).setCell ⟨g, k * 4 + 1, none⟩ (.int .i64 (k0 + k * 4 + 1))).setCell ⟨g, k * 4 + 2, none⟩ (.int .i64 (k0 + k * 4 + 1 + 1))).setCell ⟨g, k * 4 + 3, none⟩ u) _ _ 4 _ _ _) := hd fun u => (World.ownsRow.stored (World.ownsRow.stored (World.ownsRow.stored (st0.out (.string tx)) (k * 4 + 1) (.int .i64 (k0 + k * 4 + 1))).1 (k * 4 + 2) (.int .i64 (k0 + k * 4 + 1 + 1))).1 (k * 4 + 3) u).1
        clear st0
        go_wp2
        go_roundw
        case rel => exact ⟨k + 1, by omega, by go_num, by go_num, by rw [← splice_cells HMF.out HF.out hlt HG.out.1 HG.out.2.1 HG.out.2.2.1 HG.out.2.2.2]; exact HST.out _, (((X2.out.setCell HGB.out HGH.out _).setCell HGB.out HGH.out _).setCell HGB.out HGH.out _).setCell HGB.out HGH.out _⟩
        case measure => simp [intOf]; omega
      · go_wp2
        go_ret
        obtain rfl : k = n := by omega
        rw [List.take_of_length_le (by rw [HMF.out]; exact Nat.le_refl _), List.drop_eq_nil_of_le (by rw [HF.out]; exact Nat.le_refl _), List.append_nil] at ho
        exact ⟨rfl, ho, hx⟩
def Mk_FregeStepS (w : World) (v : Value) (rs : List Rec) (k0 : Int) : Prop := RdRec w v (mkR k0 rs.length)
def len_FregeStepS (rs : List Rec) : Int := rs.length * 4
theorem Mk_FregeStepS.ext {w w' : World} {v : Value} {rs : List Rec} {k0 : Int} (h : Mk_FregeStepS w v rs k0) (he : Ext w w') : Mk_FregeStepS w' v rs k0 := RdRec.ext h he
theorem len_FregeStepS_bd {rs : List Rec} (b : Bd_FregeStepS rs) : 0 ≤ len_FregeStepS rs ∧ len_FregeStepS rs ≤ 4194304 := by
  have := b.1
  unfold len_FregeStepS
  omega
theorem u_mark_FregeStepS (rs : List Rec) (v : Value) (k0 : Int) (w : World) (lo hi : Nat) (h : Own_FregeStepS w lo hi v rs) (_hh : hi ≤ w.heap.size) (b : Bd_FregeStepS rs) (hk0 : 0 ≤ k0) (hk1 : k0 ≤ 1000000000) :
    Calls Tryd.prog 13 #[v, .int .i64 k0] w (fun e w' => e = .returned (.int .i64 (k0 + len_FregeStepS rs)) ∧ Mk_FregeStepS w' v rs k0 ∧ Touch lo hi w w') := by
  refine (l_markFregeStepS rs v k0 w lo h.1 b.1 hk0 hk1 hi h.2.1).mono ?_
  rintro e w' ⟨rfl, ho, ht⟩
  refine ⟨rfl, ?_, ht⟩
  have := own_rd ho
  unfold Mk_FregeStepS RdRec
  rw [length_mkR]
  exact this
theorem u_held_FregeStepS (rs : List Rec) (v : Value) (k0 : Int) (w : World) (h : Mk_FregeStepS w v rs k0) (b : Bd_FregeStepS rs) (hk0 : 0 ≤ k0) (hk1 : k0 ≤ 1000000000) : Calls Tryd.prog 14 #[v, .int .i64 k0] w (RetX w (.int .i64 (k0 + len_FregeStepS rs))) :=
  l_heldFregeStepS rs.length v k0 w h b.1 hk0 hk1
end Go.Proofs.YtapgpjhogdmjbaaDoor
