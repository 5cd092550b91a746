/-
  Marks on slices of records: held. Conditions: sizes up to 2^20, marks up to 10^9.
-/
import Derived.Test.YtbeiblpikdcoeaaMarkT
import Derived.Test.YtbeiblpikdcoeaaBook2
namespace Go.Proofs.Ytbeiblpikdcoeaa
open Go.RowKit
def mkR : Int → Nat → List Rec
  | _, 0 => []
  | k0, n + 1 => ⟨markT k0, k0 + 1, k0 + 2, k0 + 3⟩ :: mkR (k0 + 4) n
@[simp] theorem length_mkR : ∀ (n : Nat) (k0 : Int), (mkR k0 n).length = n
  | 0, _ => rfl
  | n + 1, k0 => by simp [mkR, length_mkR n]
theorem mkR_get : ∀ (n : Nat) (k0 : Int) (j : Nat) (h : j < (mkR k0 n).length), (mkR k0 n)[j] = ⟨markT (k0 + j * 4), k0 + j * 4 + 1, k0 + j * 4 + 2, k0 + j * 4 + 3⟩
  | 0, _, j, h => by simp at h
  | n + 1, k0, 0, _ => by simp [mkR]
  | n + 1, k0, j + 1, h => by
    have := mkR_get n (k0 + 4) j (by simpa using h)
    simp only [mkR, List.getElem_cons_succ, this]
    rw [show k0 + 4 + (j : Int) * 4 = k0 + ((j + 1 : Nat) : Int) * 4 from by omega]
set_option maxRecDepth 100000 in
set_option maxHeartbeats 3200000 in
theorem l_heldRecordS (n : Nat) (v : Value) (k0 : Int) (w : World) (h : RdRec w v (mkR k0 n)) (hl : n ≤ 1048576) (hk0 : 0 ≤ k0) (hk1 : k0 ≤ 1000000000) :
    Calls Try.prog 44 #[v, .int .i64 k0] w (RetX w (.int .i64 (k0 + n * 4))) := by
  obtain ⟨A, c, rfl, h1, h2, ha⟩ := h.form
  clear h
  rw [length_mkR] at h1
  have HLN : Hid ((mkR k0 n).length = n) := hd (length_mkR n k0)
  rw [length_mkR] at ha ⊢
  go_enter Try.func44, Try.ntmps44
  go_wp2
  go_loopw [5, 1] (fun i m wr => ∃ k : Nat, k ≤ n ∧ i = .int .i64 k ∧ m = .int .i64 (k0 + k * 4) ∧ Ext w wr) (fun i _ _ => n - (intOf i).toNat)
  case atStart => exact ⟨0, by omega, rfl, by simp, Ext.refl _⟩
  case round =>
    obtain ⟨k, hk, rfl, rfl, hx⟩ := hrel
    have HX := hd hx
    clear hx
    by_cases hlt : k < n
    · obtain ⟨a, rfl, d0, d1, d2, d3⟩ := RdRec.at_ ha (k := k) (by rw [HLN.out]; exact hlt)
      rw [mkR_get] at d0 d1 d2 d3
      have c0 := HX.out.cell d0
      have c1 := HX.out.cell d1
      have c2 := HX.out.cell d2
      have c3 := HX.out.cell d3
      clear d0 d1 d2 d3
      dsimp only at c0 c1 c2 c3
      go_wp2_with fail
      obtain ⟨tx, htx⟩ : ∃ tx, markT (k0 + k * 4) = tx := ⟨_, rfl⟩
      rw [htx] at c0
      have HT : Hid (Value.string (markT (k0 + k * 4)) = .string tx) := hd (by rw [htx])
      clear htx
      go_region_held3 (fun w' => (w'.cell? (a.add (k * 4)) = some (.string tx) ∧ w'.cell? ⟨(a.add (k * 4)).block, (a.add (k * 4)).off + 1, none⟩ = some (.int .i64 (k0 + k * 4 + 1)) ∧ w'.cell? ⟨(a.add (k * 4)).block, (a.add (k * 4)).off + 2, none⟩ = some (.int .i64 (k0 + k * 4 + 2)) ∧ w'.cell? ⟨(a.add (k * 4)).block, (a.add (k * 4)).off + 3, none⟩ = some (.int .i64 (k0 + k * 4 + 3))) ∧ Ext wr w')
        ((refine ⟨⟨Ext.cell ?_ c0, Ext.cell ?_ c1, Ext.cell ?_ c2, Ext.cell ?_ c3⟩, ?_⟩ <;> (repeat (first | assumption | exact Ext.refl _ | apply Ext.drew | exact Ext.trans (Ext.drew (Ext.refl _)) hx2))))
        (first | (go_at_call 82; (with_reducible refine (rvx (l_markText _ _ (by omega)) HT).mono ?_); rintro e w2 ⟨rfl, hx2⟩))
      have HX2 := hd (HX.out.trans ((Ext.refl _).drew.trans hx2))
      clear hx2
      rename_i hH
      have e1 := hH.1.2.1
      have e2 := hH.1.2.2.1
      have e3 := hH.1.2.2.2
      clear hH c0 c1 c2 c3
      go_wp2
      go_roundw
      case rel => exact ⟨k + 1, by omega, by go_num, by go_num, HX2.out⟩
      case measure => simp [intOf]; omega
    · go_wp2
      go_ret
      obtain rfl : k = n := by omega
      exact RetX.mk rfl HX.out
set_option maxRecDepth 100000 in
set_option maxHeartbeats 3200000 in
theorem l_markRecordS (rs : List Rec) (v : Value) (k0 : Int) (w : World) (lo : Nat) (h : Own w lo 106 4 v rs.length (recCells rs)) (hl : rs.length ≤ 1048576) (hk0 : 0 ≤ k0) (hk1 : k0 ≤ 1000000000) (hi : Nat) (hhi : ∀ b, v.ownBlock = some b → b < hi) :
    Calls Try.prog 39 #[v, .int .i64 k0] w fun e w' => e = .returned (.int .i64 (k0 + rs.length * 4)) ∧ Own w' lo 106 4 v rs.length (recCells (mkR k0 rs.length)) ∧ Touch lo hi w w' := by
  rcases own_form h with ⟨rfl, hn, _⟩ | ⟨g, cap, rfl, hb, hg, hnc, hcm⟩
  · have hx : rs = [] := List.eq_nil_of_length_eq_zero hn
    subst hx
    clear h hn
    go_enter Try.func39, Try.ntmps39
    go_wp2
    refine wp_loop_rounds 1 ?_; rw [rounds_succ]; go_wp2
    go_ret
    exact ⟨by simp, own_nil _ _ _ _, Touch.refl _ _ _⟩
  · have hgh := hhi g rfl
    clear hhi
    have HF : Hid ((recCells rs).length = rs.length * 4) := hd (length_recCells rs)
    generalize recCells rs = Z at *
    generalize rs.length = n at *
    have HMF : Hid ((recCells (mkR k0 n)).length = n * 4) := hd (by simp)
    have HMG : Hid (∀ k, k < n → (recCells (mkR k0 n))[k * 4]? = some (.string (markT (k0 + k * 4))) ∧ (recCells (mkR k0 n))[k * 4 + 1]? = some (.int .i64 (k0 + k * 4 + 1)) ∧ (recCells (mkR k0 n))[k * 4 + 2]? = some (.int .i64 (k0 + k * 4 + 1 + 1)) ∧ (recCells (mkR k0 n))[k * 4 + 3]? = some (.int .i64 (k0 + k * 4 + 1 + 1 + 1))) := hd fun k hk => by
      have h1 := recCells_get (mkR k0 n) (k := k) (by simpa using hk)
      rw [mkR_get] at h1
      dsimp only at h1
      rw [show k0 + (k : Int) * 4 + 2 = k0 + k * 4 + 1 + 1 from by omega, show k0 + (k : Int) * 4 + 3 = k0 + k * 4 + 1 + 1 + 1 from by omega] at h1
      exact h1
    generalize recCells (mkR k0 n) = X at *
    have HO0 := hd h
    clear h
    have HGB := hd hb
    have HGH := hd hgh
    clear hb hgh
    go_enter Try.func39, Try.ntmps39
    go_wp2
    go_loopw [5, 1] (fun i m wr => ∃ k : Nat, k ≤ n ∧ i = .int .i64 k ∧ m = .int .i64 (k0 + k * 4) ∧ Own wr lo 106 4 (.slice (some ⟨g, 0, none⟩) n cap) n (X.take (k * 4) ++ Z.drop (k * 4)) ∧ Touch lo hi w wr) (fun i _ _ => n - (intOf i).toNat)
    case atStart => exact ⟨0, by omega, rfl, by simp, by simpa using HO0.out, Touch.refl _ _ _⟩
    case round =>
      clear HO0
      obtain ⟨k, hk, rfl, rfl, ho, hx⟩ := hrel
      by_cases hlt : k < n
      · have HO := hd ho
        have HX := hd hx
        clear ho hx
        obtain ⟨tx, htx⟩ : ∃ tx, markT (k0 + k * 4) = tx := ⟨_, rfl⟩
        have HT : Hid (Value.string (markT (k0 + k * 4)) = .string tx) := hd (by rw [htx])
        have HG := hd (HMG.out k hlt)
        rw [htx] at HG
        clear htx
        go_wp2_with fail
        refine (rvx (l_markText _ _ (by omega)) HT).mono ?_
        rintro e w2 ⟨rfl, hx2⟩
        have O2 := hd (own_ext HO.out hx2)
        have X2 := hd (HX.out.trans (Touch.of_ext hx2))
        clear hx2
        obtain ⟨⟨u0, s0⟩, f0, st0⟩ := own_storeN O2.out (j := k * 4) (by omega)
        obtain ⟨⟨u1, s1⟩, f1, -⟩ := own_storeN O2.out (j := k * 4 + 1) (by omega)
        obtain ⟨⟨u2, s2⟩, f2, -⟩ := own_storeN O2.out (j := k * 4 + 2) (by omega)
        obtain ⟨⟨u3, s3⟩, f3, -⟩ := own_storeN O2.out (j := k * 4 + 3) (by omega)
        have HST : Hid (∀ u, Own ((((w2.setCell ⟨g, k * 4, none⟩ (.string tx)).setCell ⟨g, k * 4 + 1, none⟩ (.int .i64 (k0 + k * 4 + 1))).setCell ⟨g, k * 4 + 2, none⟩ (.int .i64 (k0 + k * 4 + 1 + 1))).setCell ⟨g, k * 4 + 3, none⟩ u) _ _ 4 _ _ _) := hd fun u => (World.ownsRow.stored (World.ownsRow.stored (World.ownsRow.stored (st0.out (.string tx)) (k * 4 + 1) (.int .i64 (k0 + k * 4 + 1))).1 (k * 4 + 2) (.int .i64 (k0 + k * 4 + 1 + 1))).1 (k * 4 + 3) u).1
        clear st0
        go_wp2
        go_roundw
        case rel => exact ⟨k + 1, by omega, by go_num, by go_num, by rw [← splice_cells HMF.out HF.out hlt HG.out.1 HG.out.2.1 HG.out.2.2.1 HG.out.2.2.2]; exact HST.out _, (((X2.out.setCell HGB.out HGH.out _).setCell HGB.out HGH.out _).setCell HGB.out HGH.out _).setCell HGB.out HGH.out _⟩
        case measure => simp [intOf]; omega
      · go_wp2
        go_ret
        obtain rfl : k = n := by omega
        rw [List.take_of_length_le (by rw [HMF.out]; exact Nat.le_refl _), List.drop_eq_nil_of_le (by rw [HF.out]; exact Nat.le_refl _), List.append_nil] at ho
        exact ⟨rfl, ho, hx⟩
def Mk_RecordS (w : World) (v : Value) (rs : List Rec) (k0 : Int) : Prop := RdRec w v (mkR k0 rs.length)
def len_RecordS (rs : List Rec) : Int := rs.length * 4
theorem Mk_RecordS.ext {w w' : World} {v : Value} {rs : List Rec} {k0 : Int} (h : Mk_RecordS w v rs k0) (he : Ext w w') : Mk_RecordS w' v rs k0 := RdRec.ext h he
theorem len_RecordS_bd {rs : List Rec} (b : Bd_RecordS rs) : 0 ≤ len_RecordS rs ∧ len_RecordS rs ≤ 4194304 := by
  have := b.1
  unfold len_RecordS
  omega
theorem u_mark_RecordS (rs : List Rec) (v : Value) (k0 : Int) (w : World) (lo hi : Nat) (h : Own_RecordS w lo hi v rs) (_hh : hi ≤ w.heap.size) (b : Bd_RecordS rs) (hk0 : 0 ≤ k0) (hk1 : k0 ≤ 1000000000) :
    Calls Try.prog 39 #[v, .int .i64 k0] w (fun e w' => e = .returned (.int .i64 (k0 + len_RecordS rs)) ∧ Mk_RecordS w' v rs k0 ∧ Touch lo hi w w') := by
  refine (l_markRecordS rs v k0 w lo h.1 b.1 hk0 hk1 hi h.2.1).mono ?_
  rintro e w' ⟨rfl, ho, ht⟩
  refine ⟨rfl, ?_, ht⟩
  have := own_rd ho
  unfold Mk_RecordS RdRec
  rw [length_mkR]
  exact this
theorem u_held_RecordS (rs : List Rec) (v : Value) (k0 : Int) (w : World) (h : Mk_RecordS w v rs k0) (b : Bd_RecordS rs) (hk0 : 0 ≤ k0) (hk1 : k0 ≤ 1000000000) : Calls Try.prog 44 #[v, .int .i64 k0] w (RetX w (.int .i64 (k0 + len_RecordS rs))) :=
  l_heldRecordS rs.length v k0 w h b.1 hk0 hk1
end Go.Proofs.Ytbeiblpikdcoeaa
