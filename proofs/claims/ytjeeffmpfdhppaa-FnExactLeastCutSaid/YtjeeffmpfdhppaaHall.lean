/-
  IsHallSet of both sides. Condition: sizes up to 2^20.
-/
import Derived.Test.YtjeeffmpfdhppaaPosit
import Derived.Test.YtjeeffmpfdhppaaC28
namespace Go.Proofs.Ytjeeffmpfdhppaa
open Go.RowKit
/-- All holes of some pigeons, one list behind the other. -/
def hallL (xss : List (List Int)) (sm : List Int) : List Int := sm.flatMap fun i => xss.getD (i - 1).toNat []
theorem hallL_snoc (xss : List (List Int)) (sm : List Int) (j : Nat) (hj : j < xss.length) : hallL xss (sm ++ [(j : Int) + 1]) = hallL xss sm ++ xss[j] := by
  unfold hallL
  rw [List.flatMap_append]
  simp [show ((j : Int) + 1 - 1).toNat = j from by omega, hj]
theorem hallL_len {xss : List (List Int)} (h : ∀ xs ∈ xss, xs.length ≤ 3) (sm : List Int) : (hallL xss sm).length ≤ 3 * sm.length := by
  induction sm with
  | nil => simp [hallL]
  | cons x r ih =>
    have e : hallL xss (x :: r) = xss.getD (x - 1).toNat [] ++ hallL xss r := by simp [hallL]
    have h1 : (xss.getD (x - 1).toNat []).length ≤ 3 := by
      rw [List.getD_eq_getElem?_getD]
      cases hx : xss[(x - 1).toNat]? with
      | none => simp
      | some ys => exact h ys (List.mem_of_getElem? hx)
    rw [e, List.length_append, List.length_cons]; omega
theorem hallL_mem {xss : List (List Int)} (h : ∀ xs ∈ xss, ∀ x ∈ xs, 1 ≤ x ∧ x ≤ 12) (sm : List Int) : ∀ z ∈ hallL xss sm, 1 ≤ z ∧ z ≤ 12 := by
  intro z hz
  obtain ⟨i, _, hz⟩ := List.mem_flatMap.1 hz
  rw [List.getD_eq_getElem?_getD] at hz
  cases hx : xss[(i - 1).toNat]? with
  | none => rw [hx] at hz; simp at hz
  | some ys => rw [hx] at hz; exact h ys (List.mem_of_getElem? hx) z (by simpa using hz)
/-- Some pigeons have fewer different holes than they are. -/
def hallB (xss : List (List Int)) (sm : List Int) : Bool := decide ((sortU (hallL xss sm)).length < sm.length)
set_option maxHeartbeats 1600000 in
theorem s_l28Holes (xss : List (List Int)) (sm : List Int) (v sv : Value) (w : World) (h : RdSS w v xss) (hs : RdI w sv sm) (hl : xss.length ≤ 1048576) (hlen : Hid (∀ xs ∈ xss, xs.length ≤ 3)) (hsl : sm.length ≤ 4096) (hm : Hid (∀ i ∈ sm, 1 ≤ i ∧ i ≤ (xss.length : Int))) :
    Calls Try.prog 94 #[v, sv] w (RetX w (.int .i64 ((sortU (hallL xss sm)).length : Nat))) := by
  obtain ⟨A, c, rfl, h1, h2, ha⟩ := h.form
  obtain ⟨B, d, rfl, h3, h4, hb⟩ := hs.form
  clear h hs
  have HPL : Hid (∀ j, (hallL xss (sm.take j)).length ≤ 3 * 4096) := hd fun j => Nat.le_trans (hallL_len hlen.out _) (Nat.mul_le_mul (Nat.le_refl _) (by simp; omega))
  go_enter Try.func94, Try.ntmps94
  go_wp2
  go_loopw [6, 5] (fun i pv wr => ∃ k : Nat, k ≤ sm.length ∧ i = .int .i64 k ∧ OwnI wr w.heap.size 3 pv ((hallL xss (sm.take k)).foldl putI []) ∧ Ext w wr) (fun i _ _ => sm.length - (intOf i).toNat)
  case atStart => exact ⟨0, by omega, rfl, ownI_emp' (by simp) (Nat.le_refl _), Ext.new _ _⟩
  case round =>
    obtain ⟨k, hk, rfl, ho, hx⟩ := hrel
    have HX := hd hx
    have HO := hd ho
    clear ho hx
    by_cases hlt : k < sm.length
    · obtain ⟨b, rfl, hc0⟩ := RdI.at_ hb hlt
      have hc := HX.out.cell hc0
      have hmm := hm.out _ (List.getElem_mem hlt)
      have HT : Hid (sm.take (k + 1) = sm.take k ++ [sm[k]]) := hd (List.take_succ_eq_append_getElem hlt)
      clear hc0
      generalize sm[k] = y at *
      obtain ⟨j, rfl⟩ : ∃ j : Nat, y = (j : Int) + 1 := ⟨(y - 1).toNat, by omega⟩
      have hj : j < xss.length := by omega
      have hwj : IntKind.i64.wrap ((j : Int) + 1 - 1) = (j : Int) := by rw [show (j : Int) + 1 - 1 = (j : Int) from by omega]; exact IntWalk.i64_in _ (by omega)
      obtain ⟨a, u, rfl, hc1, hr1⟩ := RdSS.at_ ha hj
      have hc2 := HX.out.cell hc1
      have HG : Hid (hallL xss (sm.take (k + 1)) = hallL xss (sm.take k) ++ xss[j]) := hd (by rw [HT.out, hallL_snoc _ _ _ hj])
      have hy3 := hlen.out _ (List.getElem_mem hj)
      have hpl := HPL.out k
      clear hc1
      generalize xss[j] = ys at *
      obtain ⟨D, d', rfl, h5, h6, HD⟩ := hr1.form
      clear hr1
      obtain ⟨wo, rfl⟩ : ∃ wo : World, wo = wr := ⟨_, rfl⟩
      go_wp2
      go_loopw [8, 5] (fun i pv wr => ∃ m : Nat, m ≤ ys.length ∧ i = .int .i64 m ∧ OwnI wr w.heap.size 3 pv ((hallL xss (sm.take k) ++ ys.take m).foldl putI []) ∧ Ext w wr) (fun i _ _ => ys.length - (intOf i).toNat)
      case atStart => exact ⟨0, by omega, rfl, by simpa using HO.out, HX.out⟩
      case round =>
        clear hc hc2
        obtain ⟨m, hm2, rfl, ho, hx⟩ := hrel
        have HX2 := hd hx
        have HO2 := hd ho
        clear ho hx
        have hfl := foldP_le (hallL xss (sm.take k) ++ ys.take m) []
        by_cases hlt2 : m < ys.length
        · obtain ⟨e1, rfl, hc3⟩ := RdI.at_ HD hlt2
          have hc4 := HX2.out.cell hc3
          have HT2 : Hid (ys.take (m + 1) = ys.take m ++ [ys[m]]) := hd (List.take_succ_eq_append_getElem hlt2)
          clear hc3
          generalize ys[m] = z at *
          go_wp2_with fail
          refine (s_l1Put _ _ z _ w.heap.size HO2.out (Nat.le_trans hfl (by rw [List.length_append, List.length_take, List.length_nil]; omega)) HX2.out.size).mono ?_
          rintro e w3 ⟨u3, rfl, hu3, hx3⟩
          go_wp2
          go_roundw
          case rel => exact ⟨m + 1, by omega, by go_num, by rw [HT2.out, ← List.append_assoc, List.foldl_append]; exact hu3, HX2.out.trans hx3⟩
          case measure => simp [intOf]; omega
        · obtain rfl : m = ys.length := by omega
          go_wp2
          go_roundw
          case rel => exact ⟨k + 1, by omega, by go_num, by rw [HG.out]; have := HO2.out; rw [List.take_of_length_le (Nat.le_refl _)] at this; exact this, HX2.out⟩
          case measure => simp [intOf]; omega
    · obtain rfl : k = sm.length := by omega
      rw [List.take_of_length_le (Nat.le_refl _)] at HO
      rw [foldP_sortU] at HO
      obtain ⟨A4, c4, rfl, -⟩ := HO.out.rd.form
      go_wp2
      go_ret
      exact RetX.mk rfl HX.out
set_option maxHeartbeats 1600000 in
theorem i_isHall (xss : List (List Int)) (sm : List Int) (v sv : Value) (w : World) (h : RdSS w v xss) (hs : RdI w sv sm) (hl : xss.length ≤ 1048576) (hlen : Hid (∀ xs ∈ xss, xs.length ≤ 3)) (hel : Hid (∀ xs ∈ xss, ∀ x ∈ xs, 1 ≤ x ∧ x ≤ 12)) (hsl : sm.length ≤ 4096) (hm : Hid (∀ i ∈ sm, 1 ≤ i ∧ i ≤ (xss.length : Int))) :
    Calls Try.prog 96 #[v, sv] w (RetX w (.bool (hallB xss sm))) := by
  obtain ⟨A, c, rfl, h1, h2, ha⟩ := h.form
  obtain ⟨B, d, rfl, h3, h4, hb⟩ := hs.form
  clear h hs
  have HPL : Hid (∀ j, (hallL xss (sm.take j)).length ≤ 3 * 4096) := hd fun j => Nat.le_trans (hallL_len hlen.out _) (Nat.mul_le_mul (Nat.le_refl _) (by simp; omega))
  have HAB : Hid ((hallL xss sm).map absW = hallL xss sm) := hd (map_absW (hallL_mem hel.out sm))
  go_enter Try.func96, Try.ntmps96
  go_wp2
  go_loopw [10, 5] (fun i pv wr => ∃ k : Nat, k ≤ sm.length ∧ i = .int .i64 k ∧ OwnI wr w.heap.size 3 pv (hallL xss (sm.take k)) ∧ Ext w wr) (fun i _ _ => sm.length - (intOf i).toNat)
  case atStart => exact ⟨0, by omega, rfl, ownI_nil _ _ _, Ext.refl _⟩
  case round =>
    obtain ⟨k, hk, rfl, ho, hx⟩ := hrel
    have HX := hd hx
    have HO := hd ho
    clear ho hx
    by_cases hlt : k < sm.length
    · obtain ⟨b, rfl, hc0⟩ := RdI.at_ hb hlt
      have hc := HX.out.cell hc0
      have hmm := hm.out _ (List.getElem_mem hlt)
      have HT : Hid (sm.take (k + 1) = sm.take k ++ [sm[k]]) := hd (List.take_succ_eq_append_getElem hlt)
      clear hc0
      generalize sm[k] = y at *
      obtain ⟨j, rfl⟩ : ∃ j : Nat, y = (j : Int) + 1 := ⟨(y - 1).toNat, by omega⟩
      have hj : j < xss.length := by omega
      have hwj : IntKind.i64.wrap ((j : Int) + 1 - 1) = (j : Int) := by rw [show (j : Int) + 1 - 1 = (j : Int) from by omega]; exact IntWalk.i64_in _ (by omega)
      obtain ⟨a, u, rfl, hc1, hr1⟩ := RdSS.at_ ha hj
      have hc2 := HX.out.cell hc1
      have HR := hd (hr1.ext HX.out)
      have HG : Hid (hallL xss (sm.take (k + 1)) = hallL xss (sm.take k) ++ xss[j]) := hd (by rw [HT.out, hallL_snoc _ _ _ hj])
      have hy3 := hlen.out _ (List.getElem_mem hj)
      have hpl := HPL.out k
      clear hc1 hr1
      generalize xss[j] = ys at *
      go_wp2_with (at_builtin; refine appSI wr HO.out HR.out rfl _ _ rfl (by rfl) (by rfl) (by omega) HX.out.size ?_; intro v' w1 ho1 hg1 _)
      go_roundw
      case rel => exact ⟨k + 1, by omega, by go_num, by rw [HG.out]; exact ho1, ext_appS HX.out hg1 (ownI_ge HO.out)⟩
      case measure => simp [intOf]; omega
    · obtain rfl : k = sm.length := by omega
      rw [List.take_of_length_le (Nat.le_refl _)] at HO
      have hpl := HPL.out sm.length
      rw [List.take_of_length_le (Nat.le_refl _)] at hpl
      obtain ⟨A6, c6, rfl, h64, h65, -⟩ := HO.out.rd.form
      generalize hL : hallL xss sm = L at *
      have HL := hd hL
      clear hL
      go_wp2_with fail
      refine (i_varsOf [L] _ _ (rdSS_one (HO.out.rd.ext (Ext.alloc (Ext.refl _) _)) (Ext.refl _)) (by simp; omega) (by simp)).mono ?_
      rintro e w2 ⟨u, rfl, hu, hx2⟩
      have HX2 := hd (Ext.trans (HX.out.alloc _) hx2)
      have hlen2 : (sortU ([L].flatten.map absW)) = sortU L := by simp [HAB.out]
      rw [hlen2] at hu
      clear hx2 hlen2
      obtain ⟨A4, c4, rfl, -⟩ := hu.rd.form
      go_wp2
      go_ret
      exact RetX.mk (by unfold hallB; rw [HL.out]; simp) HX2.out
end Go.Proofs.Ytjeeffmpfdhppaa
