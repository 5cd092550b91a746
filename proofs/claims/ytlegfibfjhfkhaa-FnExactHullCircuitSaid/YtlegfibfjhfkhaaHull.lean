/-
  HullValues and LeastTrue of both sides. Conditions: sizes up to 2^20.
-/
import Derived.Test.YtlegfibfjhfkhaaSharedI
import Derived.Test.YtlegfibfjhfkhaaC30
namespace Go.Proofs.Ytlegfibfjhfkhaa
open Go.RowKit
/-- The hull while it is filled: places below k are done, place k has seen m numbers. -/
def hst (vs : List Bool) (k m : Nat) : List Bool := (List.range vs.length).map fun i => if i < k then hullAt vs i else if i = k then hullTo vs k m else false
@[simp] theorem hst_len (vs : List Bool) (k m : Nat) : (hst vs k m).length = vs.length := by simp [hst]
theorem hst_zero (vs : List Bool) : hst vs 0 0 = List.replicate vs.length false := by
  refine List.ext_getElem (by simp) fun i h1 h2 => ?_
  simp [hst, hullTo]
theorem hst_get {vs : List Bool} {k m : Nat} (h : k < (hst vs k m).length) : (hst vs k m)[k] = hullTo vs k m := by simp [hst]
theorem hst_set {vs : List Bool} {k m : Nat} : (hst vs k m).set k (hullTo vs k (m + 1)) = hst vs k (m + 1) := by
  refine List.ext_getElem (by simp) fun i h1 h2 => ?_
  rw [List.getElem_set]
  by_cases e : k = i
  · subst e; simp [hst]
  · rw [if_neg e]; simp [hst, show ¬ i = k from fun h => e h.symm]
theorem hst_next {vs : List Bool} {k : Nat} : hst vs k vs.length = hst vs (k + 1) 0 := by
  refine List.ext_getElem (by simp) fun i h1 h2 => ?_
  simp only [hst, List.getElem_map, List.getElem_range]
  by_cases a : i < k
  · rw [if_pos a, if_pos (by omega)]
  · by_cases b : i = k
    · subst b; rw [if_neg a, if_pos rfl, if_pos (by omega)]; rfl
    · rw [if_neg a, if_neg b, if_neg (by omega)]
      split
      · simp [hullTo]
      · rfl
theorem hst_end (vs : List Bool) : hst vs vs.length 0 = hullB vs := by
  refine List.ext_getElem (by simp) fun i h1 h2 => ?_
  have hi : i < vs.length := by simpa using h1
  simp [hst, hullB, hi]
set_option maxRecDepth 100000 in
set_option maxHeartbeats 3200000 in
theorem i_hull (f : Cnf) (k : Nat) (v : Value) (w : World) (h : RdSp w v f k (bothV f k f.n.toNat)) (hg : goodB f = true) (hk : k ≤ f.cs.length) (h6 : (bothV f k f.n.toNat).length ≤ 6) :
    Calls Try.prog 146 #[v] w (RetB w 4 (hullB (possV (bothV f k f.n.toNat) (f.cs.take k) (2 ^ f.n.toNat)))) := by
  have hC := i_strongest f k v w h hg hk h6
  have hlen := possV_len (bothV f k f.n.toNat) (f.cs.take k) (2 ^ f.n.toNat)
  have hp6 := pow6 h6
  generalize possV (bothV f k f.n.toNat) (f.cs.take k) (2 ^ f.n.toNat) = SV at *
  have hsl : SV.length ≤ 64 := by omega
  have HC := hd hC
  clear h hg hk h6 hlen hp6 hC
  go_enter Try.func146, Try.ntmps146
  go_wp2_with fail
  refine HC.out.mono ?_
  rintro e w2 ⟨u2, rfl, hu2, hx2⟩
  have X2 := hd hx2
  have HR := hd hu2.rd
  obtain ⟨A5, c5, rfl, h1, h2, hb⟩ := hu2.rd.form
  clear hu2 hx2 HC
  have HZ := hd (hst_zero SV)
  go_wp2_with (at_make; refine mkB (n := SV.length) _ rfl _ _ rfl rfl rfl (by omega) ?_; intro w3 hown3 hx3)
  rw [← HZ.out] at hown3
  have HO3 := hd hown3
  have X23 := hd hx3
  clear hown3 hx3
  go_wp2
  go_loopw [15, 5] (fun i _ wr => ∃ k : Nat, k ≤ SV.length ∧ i = .int .i64 k ∧ Hid (OwnB wr w2.heap.size 4 (.slice (some ⟨w2.heap.size, 0, none⟩) SV.length SV.length) (hst SV k 0)) ∧ Hid (Ext w2 wr)) (fun i _ _ => SV.length - (intOf i).toNat)
  case atStart => exact ⟨0, by omega, rfl, HO3, X23⟩
  case round =>
    clear HO3 X23 HZ
    obtain ⟨k, hk, rfl, HO, HX⟩ := hrel
    by_cases hlt : k < SV.length
    · go_wp2
      go_loopw [20, 6, 7] (fun i _ _ wr => ∃ m : Nat, m ≤ SV.length ∧ i = .int .i64 m ∧ Hid (OwnB wr w2.heap.size 4 (.slice (some ⟨w2.heap.size, 0, none⟩) SV.length SV.length) (hst SV k m)) ∧ Hid (Ext w2 wr)) (fun i _ _ _ => SV.length - (intOf i).toNat)
      case atStart => exact ⟨0, by omega, rfl, HO, HX⟩
      case round =>
        clear HO HX
        obtain ⟨m, hm, rfl, HO, HX⟩ := hrel
        by_cases hltm : m < SV.length
        · obtain ⟨a, rfl, hc0⟩ := RdB.at_ hb hltm
          have hc := HX.out.cell hc0
          obtain ⟨g, hge, hgl, hcc, hf, hst2⟩ := ownB_at HO.out (hst_len _ _ _) hlt
          rw [hst_get] at hcc
          injection hge with hge
          injection hge with hge
          subst hge
          have HS := hd (hst2.out (hullTo SV k (m + 1)))
          rw [hst_set] at HS
          have hs := hullTo_succ SV k m hltm
          have HBB : Hid (belowB m k = (m &&& k == m)) := hd rfl
          clear hc0 hst2
          generalize hullTo SV k (m + 1) = b3 at *
          generalize hullTo SV k m = b0 at *
          generalize SV[m] = b1 at *
          generalize (m &&& k == m) = b2 at *
          have HS3 := hd hs
          clear hs
          cases b0 <;> cases b1 <;> cases b2
          all_goals
            (obtain rfl := HS3.out)
            go_wp2_with (go_at_call 148; refine (rt (i_below m k _ (by omega) (by omega)) HBB).mono ?_; rintro e w1 ⟨rfl, rfl⟩)
            go_roundw
            case rel => exact ⟨m + 1, by omega, by go_num, HS, hd (HX.out.setCell (Nat.le_refl _) _)⟩
            case measure => simp [intOf]; omega
        · obtain rfl : m = SV.length := by omega
          rw [hst_next] at HO
          go_wp2
          go_roundw
          case rel => exact ⟨k + 1, by omega, by go_num, HO, HX⟩
          case measure => simp [intOf]; omega
    · obtain rfl : k = SV.length := by omega
      rw [hst_end] at HO
      go_wp2
      go_ret
      have HO2 := hd (own_rebase HO.out X2.out.size)
      exact ⟨_, rfl, HO2.out, X2.out.trans HX.out⟩
def hullV (f : Cnf) (k : Int) : List Bool := hullB (strongV f k)
theorem hullV_bd (f : Cnf) (k : Int) : Bd_BoolS (hullV f k) := by unfold hullV Bd_BoolS; rw [length_hullB]; exact strongV_bd f k
theorem strong_no {f : Cnf} {k : Int} (h : sharedB f k = false) : strongV f k = [] := by
  unfold strongV someV
  unfold sharedB at h
  cases ha : askB f k
  · rfl
  · rw [ha] at h
    have hs : someOk f k.toNat = false := by simpa using h
    rw [hs]; rfl
theorem weak_no {f : Cnf} {k : Int} (h : sharedB f k = false) : weakV f k = [] := by
  unfold weakV someV
  unfold sharedB at h
  cases ha : askB f k
  · rfl
  · rw [ha] at h
    have hs : someOk f k.toNat = false := by simpa using h
    rw [hs]; rfl
theorem shared_inv {f : Cnf} {k : Int} (h : sharedB f k = true) : goodB f = true ∧ ∃ j : Nat, k = j ∧ j ≤ f.cs.length ∧ (bothV f j f.n.toNat).length ≤ 6 ∧ strongV f j = possV (bothV f j f.n.toNat) (f.cs.take j) (2 ^ f.n.toNat) ∧ weakV f j = (possV (bothV f j f.n.toNat) (f.cs.drop j) (2 ^ f.n.toNat)).map (!·) := by
  unfold sharedB at h
  rw [Bool.and_eq_true] at h
  obtain ⟨hg, j, rfl, hj⟩ := ask_inv h.1
  rw [Int.toNat_natCast] at h
  refine ⟨hg, j, rfl, hj, of_decide_eq_true h.2, ?_, ?_⟩
  · unfold strongV someV; rw [h.1, if_pos rfl, Int.toNat_natCast, h.2, if_pos rfl]
  · unfold weakV someV; rw [h.1, if_pos rfl, Int.toNat_natCast, h.2, if_pos rfl]
set_option maxHeartbeats 1600000 in
theorem s_HullValues (f : Cnf) (v : Value) (ki : Int) (w : World) (h : Rd_Cnf w v f) (b : Bd_Cnf f) (hi : I64_Cnf f) (hk : I64 ki) :
    Calls Try.prog 82 #[v, .int .i64 ki] w (RetB2 w (hullV f ki) (sharedB f ki)) := by
  obtain ⟨A, c, rfl⟩ := h.form
  have X0 : Hid (Ext w (w.alloc (.cells #[.int .i64 f.n, .slice A f.cs.length c] 26))) := hd (Ext.new _ _)
  have HV := hd (h.ext X0.out)
  have HB := hd b
  have HI := hd hi
  have HK := hd hk
  clear h b hi hk
  obtain ⟨q, hq⟩ : ∃ q, sharedB f ki = q := ⟨_, rfl⟩
  have HQ := hd hq
  clear hq
  cases q
  · have HE : Hid (hullV f ki = []) := hd (by unfold hullV; rw [strong_no HQ.out]; rfl)
    go_enter Try.func82, Try.ntmps82
    go_wp2_with fail
    refine (s_StrongestValues f _ ki _ HV.out HB.out HI.out HK.out).mono ?_
    rw [HQ.out]
    rintro e w1 ⟨u, rfl, hu, hx1⟩
    have X1 := hd (X0.out.trans hx1)
    clear hx1 hu
    go_wp2
    go_ret2
    exact RetB2.mk HQ.out.symm (by rw [HE.out]; exact ownB_emp X1.out.size) (X1.out.alloc _)
  · go_enter Try.func82, Try.ntmps82
    go_wp2_with fail
    refine (s_StrongestValues f _ ki _ HV.out HB.out HI.out HK.out).mono ?_
    rw [HQ.out]
    rintro e w1 ⟨u, rfl, hu, hx1⟩
    have X1 := hd (X0.out.trans hx1)
    have HU := hd hu.rd
    clear hx1 hu
    go_wp2_with fail
    refine (s_l30Hull _ _ _ HU.out (strongV_bd f ki)).mono ?_
    rintro e w2 ⟨u2, rfl, hu2, hx2⟩
    have HU2 := hd hu2
    have X2 := hd (X1.out.trans hx2)
    clear hu2 hx2
    go_wp2
    go_ret2
    exact RetB2.mk HQ.out.symm (own_rebase HU2.out X1.out.size) X2.out
end Go.Proofs.Ytlegfibfjhfkhaa
