/-
  NamesOf, both sides. Conditions: sizes up to 2^20.
-/
import Derived.Test.YtbeiblpikdcoeaaStrS
import Derived.Test.YtbeiblpikdcoeaaBook3
namespace Go.Proofs.Ytbeiblpikdcoeaa
open Go.RowKit
def nmL (rs : List Rec) : List (List UInt8) := rs.map fun r => r.name.data.toList
def namesV (rs : List Rec) : List (List UInt8) := if bookB rs then Lib.compact (nmL rs) else []
@[simp] theorem nmL_len (rs : List Rec) : (nmL rs).length = rs.length := by simp [nmL]
theorem namesV_bd {rs : List Rec} (b : Bd_RecordS rs) : Bd_StringS (namesV rs) := by
  unfold namesV Bd_StringS
  have h1 := Lib.compact_length_le (nmL rs)
  rw [nmL_len] at h1
  have := b.1
  split
  · omega
  · simp
theorem upTo_len (d : Array (List UInt8)) (m : Nat) : (Lib.compactUpTo d m).length ≤ m := by
  unfold Lib.compactUpTo
  rw [List.length_map]
  exact Nat.le_trans (List.length_filter_le _ _) (by simp)
theorem upTo_yes {d : Array (List UInt8)} {m : Nat} (h : Lib.keeps d m = true) : Lib.compactUpTo d (m + 1) = Lib.compactUpTo d m ++ [d[m]!] := by
  unfold Lib.compactUpTo
  rw [List.range_succ, List.filter_append, List.map_append]
  simp [h]
theorem upTo_no {d : Array (List UInt8)} {m : Nat} (h : Lib.keeps d m = false) : Lib.compactUpTo d (m + 1) = Lib.compactUpTo d m := by
  unfold Lib.compactUpTo
  rw [List.range_succ, List.filter_append, List.map_append]
  simp [h]
theorem nmL_at {rs : List Rec} {k : Nat} (h : k < rs.length) : (nmL rs).toArray[k]! = rs[k].name.data.toList := by
  simp [nmL, h]
theorem keeps_zero (rs : List Rec) : Lib.keeps (nmL rs).toArray 0 = true := by simp [Lib.keeps]
theorem keeps_pos {rs : List Rec} {k : Nat} (h : k < rs.length) (hk : 0 < k) : Lib.keeps (nmL rs).toArray k = !(rs[k].name.toList == (rs[k - 1]'(by omega)).name.toList) := by
  unfold Lib.keeps
  rw [nmL_at h, nmL_at (show k - 1 < rs.length by omega), ByteArray.toList_eq, ByteArray.toList_eq]
  have hk0 : ¬ k = 0 := by omega
  by_cases e : rs[k].name.data.toList = (rs[k - 1]'(by omega)).name.data.toList
  · rw [e]; simp [hk0]
  · simp [hk0, e]
    exact fun h' => e (congrArg Array.toList h')
def RetS2 (w : World) (xs : List (List UInt8)) (b : Bool) : Ending → World → Prop := fun e w' => ∃ u, e = .returned (.tuple #[u, .bool b]) ∧ Own_StringS w' w.heap.size w'.heap.size u xs ∧ Ext w w'
set_option maxRecDepth 100000 in
set_option maxHeartbeats 3200000 in
theorem s_NamesOf (rs : List Rec) (v : Value) (w : World) (h : Rd_RecordS w v rs) (b : Bd_RecordS rs) (_ : I64_RecordS rs) :
    Calls Try.prog 34 #[v] w (RetS2 w (namesV rs) (bookB rs)) := by
  have HH := hd h
  have hl := b.1
  clear b
  obtain ⟨A, c, rfl, h1, h2, ha⟩ := h.form
  clear h
  have X0 : Hid (Ext w (w.alloc (.cells #[] 9))) := hd (Ext.new _ _)
  have O0 : Hid (Own (w.alloc (.cells #[] 9)) w.heap.size 9 1 (.slice (some ⟨w.heap.size, 0, none⟩) 0 0) (Lib.compactUpTo (nmL rs).toArray 0).length (strs (Lib.compactUpTo (nmL rs).toArray 0))) := hd (own_lit w w.heap.size 9 1 #[] 0 (Nat.le_refl _) (Nat.zero_le _) rfl)
  obtain ⟨q, hq⟩ : ∃ q, bookB rs = q := ⟨_, rfl⟩
  have HQ := hd hq
  clear hq
  cases q
  · have HV : Hid (namesV rs = []) := hd (by unfold namesV; rw [HQ.out]; rfl)
    go_enter Try.func34, Try.ntmps34
    go_wp2_with (first | (go_at_call 77; (with_reducible refine (rtx (s_l31Good rs _ _ (HH.out.ext X0.out) hl) HQ).mono ?_); rintro e w1 ⟨rfl, hx⟩))
    go_ret2
    exact ⟨_, by rw [HQ.out]; rfl, by rw [HV.out]; exact ⟨own_ext O0.out hx, own_lt (own_ext O0.out hx)⟩, X0.out.trans hx⟩
  · have HV : Hid (namesV rs = Lib.compactUpTo (nmL rs).toArray rs.length) := hd (by unfold namesV Lib.compact; rw [HQ.out, nmL_len]; rfl)
    have HK0 := hd (keeps_zero rs)
    have HKP : Hid (∀ k (h : k < rs.length) (hk : 0 < k), Lib.keeps (nmL rs).toArray k = !(rs[k].name.toList == (rs[k - 1]'(by omega)).name.toList)) := hd fun k h hk => keeps_pos h hk
    have HAT : Hid (∀ k (h : k < rs.length), (nmL rs).toArray[k]! = rs[k].name.data.toList) := hd fun k h => nmL_at h
    generalize (nmL rs).toArray = d at *
    go_enter Try.func34, Try.ntmps34
    go_wp2_with (first | (go_at_call 77; (with_reducible refine (rtx (s_l31Good rs _ _ (HH.out.ext X0.out) hl) HQ).mono ?_); rintro e w1 ⟨rfl, hx⟩))
    have HX1 := hd (X0.out.trans hx)
    have HO1 := hd (own_ext O0.out hx)
    clear hx
    go_loopw [5, 4] (fun i o wr => ∃ k : Nat, k ≤ rs.length ∧ i = .int .i64 k ∧ Own wr w.heap.size 9 1 o (Lib.compactUpTo d k).length (strs (Lib.compactUpTo d k)) ∧ Ext w wr) (fun i _ _ => rs.length - (intOf i).toNat)
    case atStart => exact ⟨0, by omega, rfl, HO1.out, HX1.out⟩
    case round =>
      clear O0 X0 HO1 HX1
      obtain ⟨k, hk, rfl, ho, hx⟩ := hrel
      have HX := hd hx
      have HO := hd ho
      clear hx ho
      by_cases hlt : k < rs.length
      · obtain ⟨a, rfl, d0, -⟩ := RdRec.at_ ha hlt
        have c0 := HX.out.cell d0
        have hul := upTo_len d k
        have HATK := hd (HAT.out k hlt)
        clear d0
        by_cases hk0 : k = 0
        · have HK : Hid (k = 0) := hd hk0
          have hb0 : ((k : Int) == 0) = true := by simp [hk0]
          have HS : Hid (Lib.compactUpTo d (k + 1) = Lib.compactUpTo d k ++ [rs[k].name.data.toList]) := hd (by rw [upTo_yes (by rw [HK.out]; exact HK0.out), HATK.out])
          clear hk0
          generalize rs[k] = r at *
          obtain ⟨nm, x, y, z⟩ := r
          dsimp only at c0
          go_wp2_with fail
          go_quiet (fail)
          go_wp2_with (at_builtin; refine appS _ (own_ext HO.out (ext_drewN wr _)) rfl _ _ rfl _ (by rfl) (by rfl) rfl (by omega) (HX.out.trans (ext_drewN wr _)).size ?_; intro v' w1 ho1 hg1 _)
          go_roundw
          case rel => exact ⟨k + 1, by omega, by go_num, by rw [HS.out]; exact ho1, ext_app (HX.out.trans (ext_drewN wr _)) hg1 (fun g hg => (own_blocks HO.out g hg).1)⟩
          case measure => simp [intOf]; omega
        · obtain ⟨j, rfl⟩ : ∃ j, k = j + 1 := ⟨k - 1, by omega⟩
          obtain ⟨a', ha', e0, -⟩ := RdRec.at_ ha (k := j) (by omega)
          obtain rfl := Option.some.inj ha'
          have c1 := HX.out.cell e0
          clear e0 ha' hk0
          have hwr : IntKind.i64.wrap ((j : Int) + 1 - 1) = (j : Int) := by rw [show (j : Int) + 1 - 1 = (j : Int) from by omega]; exact IntWalk.i64_in _ (by omega)
          have hb0 : (((j : Int) + 1) == 0) = false := by simp; omega
          have hlt2 : j < rs.length := by omega
          have HKK := hd (HKP.out (j + 1) hlt (by omega))
          have HS1 : Hid (Lib.keeps d (j + 1) = true → Lib.compactUpTo d (j + 1 + 1) = Lib.compactUpTo d (j + 1) ++ [rs[j + 1].name.data.toList]) := hd fun e => by rw [upTo_yes e, HATK.out]
          have HS2 : Hid (Lib.keeps d (j + 1) = false → Lib.compactUpTo d (j + 1 + 1) = Lib.compactUpTo d (j + 1)) := hd fun e => upTo_no e
          have HKK2 : Hid (Lib.keeps d (j + 1) = !(rs[j + 1].name.toList == rs[j].name.toList)) := HKK
          clear HKK HATK
          generalize rs[j + 1] = r at *
          generalize rs[j] = r' at *
          obtain ⟨nm, x, y, z⟩ := r
          obtain ⟨nm', x', y', z'⟩ := r'
          dsimp only at c0 c1
          obtain ⟨t, ht⟩ : ∃ t, (nm.toList == nm'.toList) = t := ⟨_, rfl⟩
          have HKT : Hid (Lib.keeps d (j + 1) = !t) := hd (by rw [HKK2.out]; exact congrArg _ ht)
          cases t
          · go_wp2_with fail
            go_quiet (fail)
            go_wp2_with (at_builtin; refine appS _ (own_ext HO.out (ext_drewN wr _)) rfl _ _ rfl _ (by rfl) (by rfl) rfl (by omega) (HX.out.trans (ext_drewN wr _)).size ?_; intro v' w1 ho1 hg1 _)
            go_roundw
            case rel => exact ⟨j + 1 + 1, by omega, by go_num, by rw [HS1.out HKT.out]; exact ho1, ext_app (HX.out.trans (ext_drewN wr _)) hg1 (fun g hg => (own_blocks HO.out g hg).1)⟩
            case measure => simp [intOf]; omega
          · go_wp2_with fail
            go_quiet (fail)
            go_wp2
            go_roundw
            case rel => exact ⟨j + 1 + 1, by omega, by go_num, by rw [HS2.out HKT.out]; exact own_ext HO.out (ext_drewN wr _), HX.out.trans (ext_drewN wr _)⟩
            case measure => simp [intOf]; omega
      · obtain rfl : k = rs.length := by omega
        go_wp2
        go_ret2
        exact ⟨_, by rw [HQ.out]; rfl, by rw [HV.out]; exact ⟨HO.out, own_lt HO.out⟩, HX.out⟩
set_option maxRecDepth 100000 in
set_option maxHeartbeats 3200000 in
theorem i_NamesOf (rs : List Rec) (v : Value) (w : World) (h : Rd_RecordS w v rs) (b : Bd_RecordS rs) (_ : I64_RecordS rs) :
    Calls Try.prog 36 #[v] w (RetS2 w (namesV rs) (bookB rs)) := by
  have HH := hd h
  have hl := b.1
  clear b
  obtain ⟨A, c, rfl, h1, h2, ha⟩ := h.form
  clear h
  obtain ⟨q, hq⟩ : ∃ q, bookB rs = q := ⟨_, rfl⟩
  have HQ := hd hq
  clear hq
  cases q
  · have HV : Hid (namesV rs = []) := hd (by unfold namesV; rw [HQ.out]; rfl)
    go_enter Try.func36, Try.ntmps36
    go_wp2_with (first | (go_at_call 79; (with_reducible refine (rtx (i_IsBook rs _ _ HH.out hl) HQ).mono ?_); rintro e w1 ⟨rfl, hx⟩))
    go_ret2
    exact ⟨_, by rw [HQ.out]; rfl, by rw [HV.out]; exact ⟨own_nil _ _ _ _, fun g hg => (by cases hg)⟩, hx⟩
  · have HV : Hid (namesV rs = Lib.compact (nmL rs)) := hd (by unfold namesV; rw [HQ.out]; rfl)
    have HNT : Hid (∀ k (h : k < rs.length), nmL (rs.take (k + 1)) = nmL (rs.take k) ++ [rs[k].name.data.toList]) := hd fun k h => by
      rw [List.take_succ_eq_append_getElem h]
      unfold nmL
      rw [List.map_append]
      rfl
    go_enter Try.func36, Try.ntmps36
    go_wp2_with (first | (go_at_call 79; (with_reducible refine (rtx (i_IsBook rs _ _ HH.out hl) HQ).mono ?_); rintro e w1 ⟨rfl, hx⟩))
    have HX1 := hd hx
    clear hx
    go_loopw [12, 4, 6] (fun i o _ wr => ∃ k : Nat, k ≤ rs.length ∧ i = .int .i64 k ∧ Own wr w.heap.size 9 1 o (nmL (rs.take k)).length (strs (nmL (rs.take k))) ∧ Ext w wr) (fun i _ _ _ => rs.length - (intOf i).toNat)
    case atStart => exact ⟨0, by omega, rfl, own_nil _ _ _ _, HX1.out⟩
    case round =>
      clear HX1
      obtain ⟨k, hk, rfl, ho, hx⟩ := hrel
      have HX := hd hx
      have HO := hd ho
      clear hx ho
      by_cases hlt : k < rs.length
      · obtain ⟨a, rfl, d0, d1, d2, d3⟩ := RdRec.at_ ha hlt
        have c0 := HX.out.cell d0
        have c1 := HX.out.cell d1
        have c2 := HX.out.cell d2
        have c3 := HX.out.cell d3
        have HS := hd (HNT.out k hlt)
        have hul : (nmL (rs.take k)).length ≤ k := by simp; omega
        clear d0 d1 d2 d3
        generalize rs[k] = r at *
        obtain ⟨nm, x, y, z⟩ := r
        dsimp only at c0 c1 c2 c3
        have HX2 := hd (HX.out.alloc (.cells #[.string nm, .int .i64 x, .int .i64 y, .int .i64 z] 106))
        have HO2 := hd (own_ext HO.out (Ext.new wr (.cells #[.string nm, .int .i64 x, .int .i64 y, .int .i64 z] 106)))
        go_wp2_with (at_builtin; refine appS _ HO2.out rfl _ _ rfl _ (by rfl) (by rfl) (by simp) (by omega) HX2.out.size ?_; intro v' w1 ho1 hg1 _)
        go_roundw
        case rel => exact ⟨k + 1, by omega, by go_num, by rw [HS.out]; exact ho1, ext_app HX2.out hg1 (fun g hg => (own_blocks HO.out g hg).1)⟩
        case measure => simp [intOf]; omega
      · have hkl : rs.take k = rs := List.take_of_length_le (by omega)
        rw [hkl] at HO
        obtain rfl : k = rs.length := by omega
        clear hkl
        have hnl := nmL_len rs
        go_wp2_with fail
        refine (slices_CompactS (nmL rs) _ _ w.heap.size HO.out (by omega)).mono ?_
        rintro e w2 ⟨v', rfl, ho, hg, hvb⟩
        have HO3 := hd ho
        have HX3 := hd (ext_appS HX.out hg (fun g hg' => (own_blocks HO.out g hg').1))
        clear ho hg
        go_wp2
        go_ret2
        exact ⟨_, by rw [HQ.out]; rfl, by rw [HV.out]; exact ⟨HO3.out, own_lt HO3.out⟩, HX3.out⟩
end Go.Proofs.Ytbeiblpikdcoeaa
