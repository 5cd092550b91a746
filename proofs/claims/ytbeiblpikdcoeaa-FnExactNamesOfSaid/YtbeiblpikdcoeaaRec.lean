/-
  Slices of records: the words, and the laws' helpers on them: measure, copy, compare. Conditions: sizes up to 2^20.
-/
import Derived.Test.YtbeiblpikdcoeaaPair
import Derived.Test.YtbeiblpikdcoeaaLaw
namespace Go.Proofs.Ytbeiblpikdcoeaa
open Go.RowKit

structure Rec where
  name : ByteArray
  sys : Int
  size : Int
  extra : Int
def recCells : List Rec → List Value
  | [] => []
  | r :: rs => .string r.name :: .int .i64 r.sys :: .int .i64 r.size :: .int .i64 r.extra :: recCells rs
@[simp] theorem length_recCells (rs : List Rec) : (recCells rs).length = rs.length * 4 := by
  induction rs with
  | nil => rfl
  | cons r rs ih => simp [recCells, ih]; omega
theorem recCells_get (rs : List Rec) : ∀ {k : Nat} (h : k < rs.length), (recCells rs)[k * 4]? = some (.string rs[k].name) ∧ (recCells rs)[k * 4 + 1]? = some (.int .i64 rs[k].sys) ∧ (recCells rs)[k * 4 + 2]? = some (.int .i64 rs[k].size) ∧ (recCells rs)[k * 4 + 3]? = some (.int .i64 rs[k].extra) := by
  induction rs with
  | nil => intro k h; simp at h
  | cons r rs ih =>
    intro k h
    cases k with
    | zero => simp [recCells]
    | succ k =>
      have := ih (k := k) (by simpa using h)
      rw [show (k + 1) * 4 = k * 4 + 4 from by omega]
      simpa [recCells] using this
def RdRec (w : World) (v : Value) (rs : List Rec) : Prop := Rd w 4 v rs.length (recCells rs)
def I64_RecordS (rs : List Rec) : Prop := ∀ r ∈ rs, I64 r.sys ∧ I64 r.size ∧ I64 r.extra
def Bd_RecordS (rs : List Rec) : Prop := rs.length ≤ 1048576 ∧ ∀ r ∈ rs, r.name.size ≤ 1048576
section
variable {w w' : World} {lo hi : Nat} {v : Value} {rs : List Rec}
theorem RdRec.ext (h : RdRec w v rs) (he : Ext w w') : RdRec w' v rs := Rd.ext h he
theorem RdRec.form (h : RdRec w v rs) : ∃ A c, v = .slice A rs.length c ∧ rs.length ≤ c ∧ c ≤ maxLen ∧ Hid (RdRec w (.slice A rs.length c) rs) := by
  have h' := h
  obtain ⟨hl, A, c, hv, h1, h2, _⟩ := h'
  subst hv
  exact ⟨A, c, rfl, h1, h2, hd h⟩
theorem off_cell3 {a : Addr} {i : Nat} {u : Value} (h : w.cell? (a.add (i + 3)) = some u) : w.cell? ⟨(a.add i).block, (a.add i).off + 3, none⟩ = some u := by
  have e : (⟨(a.add i).block, (a.add i).off + 3, none⟩ : Addr) = a.add (i + 3) := by
    unfold Addr.add
    by_cases hi : i = 0 <;> simp [hi, Nat.add_assoc]
  rw [e]; exact h
theorem RdRec.at_ {A : Option Addr} {n c : Nat} (h : Hid (RdRec w (.slice A n c) rs)) {k : Nat} (hk : k < rs.length) : ∃ a, A = some a ∧ w.cell? (a.add (k * 4)) = some (.string rs[k].name) ∧ w.cell? ⟨(a.add (k * 4)).block, (a.add (k * 4)).off + 1, none⟩ = some (.int .i64 rs[k].sys) ∧ w.cell? ⟨(a.add (k * 4)).block, (a.add (k * 4)).off + 2, none⟩ = some (.int .i64 rs[k].size) ∧ w.cell? ⟨(a.add (k * 4)).block, (a.add (k * 4)).off + 3, none⟩ = some (.int .i64 rs[k].extra) := by
  obtain ⟨hl, A', c', hv, h1, h2, hc⟩ := h.out
  obtain ⟨g0, g1, g2, g3⟩ := recCells_get rs hk
  obtain ⟨a, ha, c0⟩ := hc _ _ g0
  obtain ⟨a1, ha1, c1⟩ := hc _ _ g1
  obtain ⟨a2, ha2, c2⟩ := hc _ _ g2
  obtain ⟨a3, ha3, c3⟩ := hc _ _ g3
  rw [ha] at ha1 ha2 ha3
  injection ha1 with ha1; injection ha2 with ha2; injection ha3 with ha3
  subst ha1; subst ha2; subst ha3
  injection hv with hA _ _
  exact ⟨a, hA.trans ha, c0, off_cell c1, off_cell2 c2, off_cell3 c3⟩
end
def szRgo : List Rec → Int → Int
  | [], left => left
  | r :: rs, left => if szI r.name.size left < 0 then -1 else szRgo rs (szI r.name.size left)
def sz_RecordS (rs : List Rec) (left : Int) : Int := if left - (rs.length : Int) < 0 then -1 else szRgo rs (left - rs.length)
theorem szI_ok' {n : Nat} {left : Int} (h : ¬ szI n left < 0) : (n : Int) ≤ left ∧ szI n left = left - n := by
  unfold szI at h ⊢
  split at h
  · omega
  · rename_i h1; rw [if_neg h1]; omega
theorem szRgo_bd (rs : List Rec) : ∀ left : Int, -1 ≤ left → left ≤ 1048576 → -1 ≤ szRgo rs left ∧ szRgo rs left ≤ 1048576 := by
  induction rs with
  | nil => intro left h1 h2; exact ⟨h1, h2⟩
  | cons r rs ih =>
    intro left h1 h2
    unfold szRgo
    split
    · omega
    · have := szI_bd r.name.size left h2; exact ih _ this.1 this.2
theorem sz_RecordS_bd (rs : List Rec) (left : Int) (h : left ≤ 1048576) : -1 ≤ sz_RecordS rs left ∧ sz_RecordS rs left ≤ 1048576 := by
  unfold sz_RecordS
  split
  · omega
  · exact szRgo_bd _ _ (by omega) (by omega)
theorem szRgo_le (rs : List Rec) : ∀ left : Int, 0 ≤ szRgo rs left → ∀ r ∈ rs, (r.name.size : Int) ≤ left := by
  induction rs with
  | nil => intro left _ r h; cases h
  | cons x rs ih =>
    intro left h r hr
    unfold szRgo at h
    split at h
    · omega
    · rename_i h1
      have h2 := szI_ok' h1
      rcases List.mem_cons.1 hr with rfl | hr
      · exact h2.1
      · have := ih _ h r hr; omega
theorem sz_RecordS_ok {rs : List Rec} {left : Int} (h : ¬ sz_RecordS rs left < 0) (hl : left ≤ 1048576) : Bd_RecordS rs := by
  unfold sz_RecordS at h
  split at h
  · omega
  · have := szRgo_le rs (left - rs.length) (by omega)
    exact ⟨by omega, fun r hr => by have := this r hr; omega⟩
theorem l_szRecord (r : Rec) (left : Int) (w : World) (h1 : r.name.size ≤ 9223372036854775807) (h2 : -1 ≤ left) (h3 : left ≤ 1048576) :
    Calls Try.prog 76 #[.agg #[.string r.name, .int .i64 r.sys, .int .i64 r.size, .int .i64 r.extra], .int .i64 left] w (RetX w (.int .i64 (szI r.name.size left))) := by
  obtain ⟨s, x, y, z⟩ := r
  dsimp only at *
  go_enter Try.func76, Try.ntmps76
  by_cases h : left - (s.size : Int) < 0
  all_goals
    go_wp2
    go_ret
    exact RetX.mk (by unfold szI; first | rw [if_pos (by omega)]; rfl | rw [if_neg (by omega)]; rfl) (Ext.new _ _)
set_option maxHeartbeats 800000 in
theorem l_szRecordS (rs : List Rec) (v : Value) (left : Int) (w : World) (h : RdRec w v rs) (hn : Hid (∀ r ∈ rs, r.name.size ≤ 9223372036854775807)) (hl : 0 ≤ left) (hl' : left ≤ 1048576) :
    Calls Try.prog 33 #[v, .int .i64 left] w (RetX w (.int .i64 (sz_RecordS rs left))) := by
  obtain ⟨A, c, rfl, h1, h2, ha⟩ := h.form
  clear h
  unfold maxLen at h2
  go_enter Try.func33, Try.ntmps33
  by_cases h0 : left - (rs.length : Int) < 0
  · go_wp2
    go_ret
    exact RetX.mk (by unfold sz_RecordS; rw [if_pos h0]; rfl) (Ext.refl _)
  · have HF : Hid (sz_RecordS rs left = szRgo rs (left - rs.length)) := hd (by unfold sz_RecordS; rw [if_neg h0])
    go_wp2
    go_loopw [5, 1] (fun i m wr => ∃ (k : Nat) (l : Int), k ≤ rs.length ∧ 0 ≤ l ∧ l ≤ 1048576 ∧ i = .int .i64 k ∧ m = .int .i64 l ∧ Hid (sz_RecordS rs left = szRgo (rs.drop k) l) ∧ Ext w wr) (fun i _ _ => rs.length - (intOf i).toNat)
    case atStart => exact ⟨0, _, by omega, by omega, by omega, rfl, rfl, HF, Ext.refl _⟩
    case round =>
      clear HF
      obtain ⟨k, l, hk, hl0, hl1, rfl, rfl, HR, hx⟩ := hrel
      have HX := hd hx
      clear hx
      by_cases hlt : k < rs.length
      · obtain ⟨a, rfl, d0, d1, d2, d3⟩ := RdRec.at_ ha hlt
        have c0 := HX.out.cell d0
        have c1 := HX.out.cell d1
        have c2 := HX.out.cell d2
        have c3 := HX.out.cell d3
        have hnr := hn.out _ (List.getElem_mem hlt)
        rw [drop_cons hlt] at HR
        clear d0 d1 d2 d3
        generalize rs[k] = r at *
        have hbd := szI_bd r.name.size l hl1
        generalize hz : szI r.name.size l = z at *
        have HZ := hd hz
        clear hz
        go_wp2_with fail
        refine (l_szRecord r l _ hnr (by omega) (by omega)).mono ?_
        rw [HZ.out]
        rintro e w2 ⟨rfl, hx2⟩
        by_cases hz0 : z < 0
        · obtain rfl : z = -1 := by omega
          go_wp2
          go_ret
          exact RetX.mk (by rw [HR.out]; unfold szRgo; rw [HZ.out, if_pos hz0]; rfl) (HX.out.trans hx2)
        · go_wp2
          go_roundw
          case rel => exact ⟨k + 1, z, by omega, by omega, by omega, by go_num, rfl, hd (by rw [HR.out, szRgo, HZ.out, if_neg (by omega)]), HX.out.trans hx2⟩
          case measure => simp [intOf]; omega
      · go_wp2
        go_ret
        exact RetX.mk (by rw [HR.out, List.drop_eq_nil_of_le (by omega)]; rfl) HX.out
set_option maxHeartbeats 800000 in
theorem l_toRecord (r : Rec) (w : World) :
    Calls Try.prog 78 #[.agg #[.string r.name, .int .i64 r.sys, .int .i64 r.size, .int .i64 r.extra]] w (RetX w (.agg #[.string r.name, .int .i64 r.sys, .int .i64 r.size, .int .i64 r.extra])) := by
  obtain ⟨s, x, y, z⟩ := r
  dsimp only
  go_enter Try.func78, Try.ntmps78
  go_wp2
  exact bodyPost_ret (v := .agg #[.string s, .int .i64 x, .int .i64 y, .int .i64 z]) (by simp [results, Try.results78, go_sem]) rfl (RetX.mk rfl (((Ext.new _ _).alloc _).alloc _))
set_option maxHeartbeats 800000 in
theorem l_eqRecord (r : Rec) (w : World) :
    Calls Try.prog 81 #[.agg #[.string r.name, .int .i64 r.sys, .int .i64 r.size, .int .i64 r.extra], .agg #[.string r.name, .int .i64 r.sys, .int .i64 r.size, .int .i64 r.extra]] w (RetX w (.bool true)) := by
  obtain ⟨s, x, y, z⟩ := r
  dsimp only
  go_enter Try.func81, Try.ntmps81
  go_wp2
  go_ret
  exact RetX.mk rfl ((Ext.new _ _).alloc _)
theorem info_record : (Try.prog.info? 106).map (fun i => (i.zero, i.size, i.bytes)) = some (some (.agg #[.string .empty, .int .i64 0, .int .i64 0, .int .i64 0]), 4, 40) := by kernel_rfl
theorem splice_cells {X Z : List Value} {k n : Nat} (hX : X.length = n * 4) (hZ : Z.length = n * 4) (_ : k < n) {x0 x1 x2 x3 : Value} (h0 : X[k * 4]? = some x0) (h1 : X[k * 4 + 1]? = some x1) (h2 : X[k * 4 + 2]? = some x2) (h3 : X[k * 4 + 3]? = some x3) :
    ((((X.take (k * 4) ++ Z.drop (k * 4)).set (k * 4) x0).set (k * 4 + 1) x1).set (k * 4 + 2) x2).set (k * 4 + 3) x3 = X.take ((k + 1) * 4) ++ Z.drop ((k + 1) * 4) := by
  rw [splice_set h0 (by omega), splice_set h1 (by omega), splice_set h2 (by omega), splice_set h3 (by omega)]
  rw [show (k + 1) * 4 = k * 4 + 1 + 1 + 1 + 1 from by omega]
set_option maxRecDepth 100000 in
set_option maxHeartbeats 1600000 in
theorem l_toRecordS (rs : List Rec) (v : Value) (w : World) (h : RdRec w v rs) (hl : rs.length ≤ 1048576) :
    Calls Try.prog 35 #[v] w (fun e w' => ∃ u, e = .returned u ∧ Own w' w.heap.size 106 4 u rs.length (recCells rs) ∧ Ext w w') := by
  obtain ⟨A, c, rfl, h1, h2, ha⟩ := h.form
  obtain ⟨i0, hi, hz0, hz1, hz2⟩ := info_parts info_record
  clear h
  go_enter Try.func35, Try.ntmps35
  go_wp2_with (at_make; refine wpList_make_full _ rfl _ _ 56 rfl w.heap.size 106 i0 (.agg #[.string .empty, .int .i64 0, .int .i64 0, .int .i64 0]) 4 Try.underlying56 hi hz0 hz1 _ _ _ _ rs.length rfl rfl rfl rfl (by rw [hz2]; omega) (by unfold maxLen; omega) (Nat.le_refl _) ?_; intro w1 hown1 hgrow1)
  have hE : Ext w w1 := (Ext.refl w).grown hgrow1 (Nat.le_refl _) (by simp)
  have hZ : (madeCells (Value.agg #[.string .empty, .int .i64 0, .int .i64 0, .int .i64 0]).cells (rs.length * 4)).toList.length = rs.length * 4 := by simp [size_madeCells]
  generalize (madeCells (Value.agg #[.string .empty, .int .i64 0, .int .i64 0, .int .i64 0]).cells (rs.length * 4)).toList = Z at *
  have HZ := hd hZ
  clear hgrow1 hZ hi hz0 hz1 hz2
  go_loopw [4] (fun i wr => ∃ k : Nat, k ≤ rs.length ∧ i = .int .i64 k ∧ Own wr w.heap.size 106 4 (.slice (some ⟨w.heap.size, 0, none⟩) rs.length rs.length) rs.length ((recCells rs).take (k * 4) ++ Z.drop (k * 4)) ∧ Ext w wr) (fun i _ => rs.length - (intOf i).toNat)
  case atStart => exact ⟨0, by omega, rfl, by simpa using hown1, hE⟩
  case round =>
    clear hown1 hE
    obtain ⟨k, hk, rfl, ho, hx⟩ := hrel
    by_cases hlt : k < rs.length
    · obtain ⟨a, rfl, d0, d1, d2, d3⟩ := RdRec.at_ ha hlt
      have c0 := hx.cell d0
      have c1 := hx.cell d1
      have c2 := hx.cell d2
      have c3 := hx.cell d3
      have HF := hd (recCells_get rs hlt)
      clear d0 d1 d2 d3
      generalize rs[k] = r at *
      obtain ⟨s, x, y, z⟩ := r
      dsimp only at c0 c1 c2 c3
      have HO := hd ho
      clear ho
      go_wp2_with fail
      refine (l_toRecord ⟨s, x, y, z⟩ _).mono ?_
      rintro e w2 ⟨rfl, hx2⟩
      dsimp only
      have O2 := hd (own_ext HO.out hx2)
      obtain ⟨⟨u0, s0⟩, f0, st0⟩ := own_storeN O2.out (j := k * 4) (by omega)
      obtain ⟨⟨u1, s1⟩, f1, -⟩ := own_storeN O2.out (j := k * 4 + 1) (by omega)
      obtain ⟨⟨u2, s2⟩, f2, -⟩ := own_storeN O2.out (j := k * 4 + 2) (by omega)
      obtain ⟨⟨u3, s3⟩, f3, -⟩ := own_storeN O2.out (j := k * 4 + 3) (by omega)
      have HX := hd (hx.trans hx2)
      have HST : Hid (∀ u, Own ((((w2.setCell ⟨w.heap.size, k * 4, none⟩ (.string s)).setCell ⟨w.heap.size, k * 4 + 1, none⟩ (.int .i64 x)).setCell ⟨w.heap.size, k * 4 + 2, none⟩ (.int .i64 y)).setCell ⟨w.heap.size, k * 4 + 3, none⟩ u) _ _ 4 _ _ _) := hd fun u => (World.ownsRow.stored (World.ownsRow.stored (World.ownsRow.stored (st0.out (.string s)) (k * 4 + 1) (.int .i64 x)).1 (k * 4 + 2) (.int .i64 y)).1 (k * 4 + 3) u).1
      clear hx hx2 st0 c0 c1 c2 c3
      go_wp2
      go_roundw
      case rel => exact ⟨k + 1, by omega, by go_num, by rw [← splice_cells (by simp) HZ.out hlt HF.out.1 HF.out.2.1 HF.out.2.2.1 HF.out.2.2.2]; exact HST.out _, (((HX.out.setCell (Nat.le_refl _) _).setCell (Nat.le_refl _) _).setCell (Nat.le_refl _) _).setCell (Nat.le_refl _) _⟩
      case measure => simp [intOf]; omega
    · go_wp2
      go_ret
      obtain rfl : k = rs.length := by omega
      rw [List.take_of_length_le (by simp), List.drop_eq_nil_of_le (by rw [HZ.out]; exact Nat.le_refl _), List.append_nil] at ho
      exact ⟨_, rfl, ho, hx⟩
set_option maxRecDepth 100000 in
set_option maxHeartbeats 800000 in
theorem l_eqRecordS (rs : List Rec) (v v' : Value) (w : World) (h : RdRec w v rs) (h' : RdRec w v' rs) (hl : rs.length ≤ 1048576) :
    Calls Try.prog 38 #[v, v'] w (RetX w (.bool true)) := by
  obtain ⟨A, c, rfl, h1, h2, ha⟩ := h.form
  obtain ⟨A', c', rfl, h1', h2', ha'⟩ := h'.form
  clear h h'
  go_enter Try.func38, Try.ntmps38
  go_wp2
  go_loopw [5] (fun i wr => ∃ k : Nat, k ≤ rs.length ∧ i = .int .i64 k ∧ Ext w wr) (fun i _ => rs.length - (intOf i).toNat)
  case atStart => exact ⟨0, by omega, rfl, Ext.refl _⟩
  case round =>
    obtain ⟨k, hk, rfl, hx⟩ := hrel
    by_cases hlt : k < rs.length
    · obtain ⟨a, rfl, d0, d1, d2, d3⟩ := RdRec.at_ ha hlt
      obtain ⟨a', rfl, g0, g1, g2, g3⟩ := RdRec.at_ ha' hlt
      have c0 := hx.cell d0
      have c1 := hx.cell d1
      have c2 := hx.cell d2
      have c3 := hx.cell d3
      have b0 := hx.cell g0
      have b1 := hx.cell g1
      have b2 := hx.cell g2
      have b3 := hx.cell g3
      have HX := hd hx
      clear d0 d1 d2 d3 g0 g1 g2 g3 hx
      generalize rs[k] = r at *
      obtain ⟨s, x, y, z⟩ := r
      dsimp only at c0 c1 c2 c3 b0 b1 b2 b3
      have e1 : (0 : Int) ≤ (k : Int) := by omega
      have e2 : (k : Int) < (rs.length : Int) := by omega
      go_wp2_with fail
      go_region_held3 (fun w' => (w'.cell? (a.add (k * 4)) = some (.string s) ∧ w'.cell? ⟨(a.add (k * 4)).block, (a.add (k * 4)).off + 1, none⟩ = some (.int .i64 x) ∧ w'.cell? ⟨(a.add (k * 4)).block, (a.add (k * 4)).off + 2, none⟩ = some (.int .i64 y) ∧ w'.cell? ⟨(a.add (k * 4)).block, (a.add (k * 4)).off + 3, none⟩ = some (.int .i64 z) ∧ w'.cell? (a'.add (k * 4)) = some (.string s) ∧ w'.cell? ⟨(a'.add (k * 4)).block, (a'.add (k * 4)).off + 1, none⟩ = some (.int .i64 x) ∧ w'.cell? ⟨(a'.add (k * 4)).block, (a'.add (k * 4)).off + 2, none⟩ = some (.int .i64 y) ∧ w'.cell? ⟨(a'.add (k * 4)).block, (a'.add (k * 4)).off + 3, none⟩ = some (.int .i64 z)) ∧ Ext wr w')
        ((refine ⟨⟨Ext.cell ?_ c0, Ext.cell ?_ c1, Ext.cell ?_ c2, Ext.cell ?_ c3, Ext.cell ?_ b0, Ext.cell ?_ b1, Ext.cell ?_ b2, Ext.cell ?_ b3⟩, ?_⟩ <;> (repeat (first | assumption | exact Ext.refl _ | apply Ext.drew | exact Ext.trans (Ext.drew (Ext.refl _)) hx2))))
        (first | (go_at_call 81; refine (l_eqRecord ⟨s, x, y, z⟩ _).mono ?_; rintro e w2 ⟨rfl, hx2⟩))
      have HX2 := hd (HX.out.trans ((Ext.refl _).drew.trans hx2))
      clear hx2
      go_wp2
      go_roundw
      case rel => exact ⟨k + 1, by omega, by go_num, HX2.out⟩
      case measure => simp [intOf]; omega
    · go_wp2
      go_ret
      exact RetX.mk rfl hx
def Sm_RecordS (rs : List Rec) : Prop := ∀ r ∈ rs, r.name.size ≤ 9223372036854775807
def Rd_RecordS (w : World) (v : Value) (rs : List Rec) : Prop := RdRec w v rs ∧ Sm_RecordS rs
def Own_RecordS (w : World) (lo hi : Nat) (v : Value) (rs : List Rec) : Prop := Own w lo 106 4 v rs.length (recCells rs) ∧ (∀ b, v.ownBlock = some b → b < hi) ∧ Sm_RecordS rs
section
variable {w w' : World} {lo hi : Nat} {v : Value} {rs : List Rec}
theorem Rd_RecordS.ext (h : Rd_RecordS w v rs) (he : Ext w w') : Rd_RecordS w' v rs := ⟨h.1.ext he, h.2⟩
theorem Rd_RecordS.form (h : Rd_RecordS w v rs) : ∃ A c, v = .slice A rs.length c ∧ rs.length ≤ c ∧ c ≤ maxLen ∧ Hid (RdRec w (.slice A rs.length c) rs) := h.1.form
theorem Own_RecordS.ext (h : Own_RecordS w lo hi v rs) (he : Ext w w') : Own_RecordS w' lo hi v rs := ⟨own_ext h.1 he, h.2⟩
theorem Own_RecordS.rd (h : Own_RecordS w lo hi v rs) : Rd_RecordS w v rs := ⟨own_rd h.1, h.2.2⟩
theorem Own_RecordS.touch {lo' hi' : Nat} (h : Own_RecordS w lo hi v rs) (ht : Touch lo' hi' w w') (hd : hi ≤ lo' ∨ hi' ≤ lo) : Own_RecordS w' lo hi v rs :=
  ⟨own_touch h.1 ht fun b hb => by have := h.2.1 b hb; have := (own_blocks h.1 b hb).1; omega, h.2⟩
end
theorem u_sz_RecordS (rs : List Rec) (v : Value) (left : Int) (w : World) (h : Rd_RecordS w v rs) (h2 : 0 ≤ left) (h3 : left ≤ 1048576) : Calls Try.prog 33 #[v, .int .i64 left] w (RetX w (.int .i64 (sz_RecordS rs left))) := l_szRecordS rs v left w h.1 h.2 h2 h3
theorem u_to_RecordS (rs : List Rec) (v : Value) (w : World) (h : Rd_RecordS w v rs) (b : Bd_RecordS rs) : Calls Try.prog 35 #[v] w (fun e w' => ∃ u, e = .returned u ∧ Own_RecordS w' w.heap.size w'.heap.size u rs ∧ Ext w w') :=
  (l_toRecordS rs v w h.1 b.1).mono fun _ _ ⟨u, h1, h2, h3⟩ => ⟨u, h1, ⟨h2, own_lt h2, h.2⟩, h3⟩
theorem u_eq_RecordS (rs : List Rec) (v v' : Value) (w : World) (h : Rd_RecordS w v rs) (h' : Rd_RecordS w v' rs) (b : Bd_RecordS rs) : Calls Try.prog 38 #[v, v'] w (RetX w (.bool true)) := l_eqRecordS rs v v' w h.1 h'.1 b.1
end Go.Proofs.Ytbeiblpikdcoeaa
