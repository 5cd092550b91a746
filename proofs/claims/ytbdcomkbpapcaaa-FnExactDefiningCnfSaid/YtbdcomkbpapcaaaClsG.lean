import Derived.Test.YtbdcomkbpapcaaaMust
/-
  impl.clause at any literals: sorted, without repeats; no clause where a literal stands beside its negation. Conditions: numbers within 1000, at most 2^20 of them.
-/

namespace Go.Proofs.Ytbdcomkbpapcaaa
open Go.RowKit Go.Sort
def negAdj : List Int → Bool
  | x :: y :: r => (y == -x) || negAdj (y :: r)
  | _ => false
theorem negAdj_iff : ∀ ys : List Int, negAdj ys = true ↔ ∃ (j : Nat) (h : j + 1 < ys.length), ys[j + 1] = -ys[j]
  | [] => by simp [negAdj]
  | [x] => by simp [negAdj]
  | x :: y :: r => by
    unfold negAdj
    rw [Bool.or_eq_true, beq_iff_eq, negAdj_iff (y :: r)]
    constructor
    · rintro (h | ⟨j, hj, h⟩)
      · exact ⟨0, by simp, h⟩
      · exact ⟨j + 1, by simpa using hj, h⟩
    · rintro ⟨j, hj, h⟩
      cases j with
      | zero => exact .inl h
      | succ j => exact .inr ⟨j, by simpa using hj, h⟩
/-- A clause of the call's own, or none. -/
def RetCl (w : World) (ys : List Int) : Bool → Ending → World → Prop
  | true => fun e w' => e = .returned (.tuple #[.slice none 0 0, .bool false]) ∧ Ext w w'
  | false => fun e w' => ∃ u, e = .returned (.tuple #[u, .bool true]) ∧ OwnI w' w.heap.size 3 u ys ∧ Ext w w'
set_option maxHeartbeats 1600000 in
theorem i_clauseS (xs zs ys : List Int) (v : Value) (w : World) (h : RdI w v xs) (hl : xs.length ≤ 1048576) (hs : Hid (xs.mergeSort leLit = zs)) (hc : Hid (Go.Lib.compact zs = ys)) (hyl : ys.length ≤ 1048576) (hb : Hid (∀ x ∈ ys, -1000 ≤ x ∧ x ≤ 1000)) :
    Calls Try.prog 62 #[v] w (RetCl w ys (negAdj ys)) := by
  have HR := hd h
  have hml : zs.length ≤ 1073741824 := by rw [← hs.out, List.length_mergeSort]; omega
  have HNA := hd (negAdj_iff ys)
  clear h
  go_enter Try.func62, Try.ntmps62
  go_wp2_with fail
  refine (slices_Clone xs _ _ HR.out (by omega)).mono ?_
  rintro e w1 ⟨u1, rfl, hu1, hx1⟩
  have O1 := hd hu1
  have X1 := hd hx1
  clear hu1 hx1
  go_wp2_with fail
  refine (slices_SortLit xs _ _ _ O1.out (by omega)).mono ?_
  rintro e w2 ⟨rfl, hu2, hg2⟩
  rw [hs.out] at hu2
  have O2 := hd hu2
  have X2 := hd (ext_appS X1.out hg2 (ownI_ge O1.out))
  clear hu2 hg2
  go_wp2_with fail
  refine (slices_CompactI zs _ _ _ O2.out (by omega)).mono ?_
  rintro e w3 ⟨u3, rfl, hu3, hg3, -⟩
  rw [hc.out] at hu3
  have O3 := hd hu3
  have X3 := hd (ext_appS X2.out hg3 (ownI_ge O2.out))
  clear hu3 hg3
  obtain ⟨A, c, rfl, h1, h2, -⟩ := O3.out.rd.form
  go_wp2
  go_loopw [5] (fun i wr => ∃ k : Nat, 1 ≤ k ∧ k ≤ ys.length + 1 ∧ i = .int .i64 (k : Int) ∧ OwnI wr w.heap.size 3 (.slice A ys.length c) ys ∧ Ext w wr ∧ Hid (∀ (j : Nat) (h : j + 1 < ys.length), j + 1 < k → ys[j + 1] ≠ -ys[j])) (fun i _ => ys.length + 2 - (intOf i).toNat)
  case atStart => exact ⟨1, by omega, by omega, rfl, O3.out, X3.out, hd fun j h1 h2 => by omega⟩
  case round =>
    obtain ⟨k, hk1, hk, rfl, ho, hx, HJ⟩ := hrel
    have HX := hd hx
    have HO := hd ho
    have HA := hd ho.rd
    clear ho hx
    by_cases hlt : k < ys.length
    · obtain ⟨a, rfl, hc1⟩ := RdI.at_ HA hlt
      obtain ⟨a', ha', hc'⟩ := RdI.at_ HA (show k - 1 < ys.length by omega)
      cases ha'
      have hb1 := hb.out _ (List.getElem_mem hlt)
      have hb2 := hb.out _ (List.getElem_mem (show k - 1 < ys.length by omega))
      have HJ1 : Hid (ys[k] ≠ -ys[k - 1] → ∀ (j : Nat) (h : j + 1 < ys.length), j + 1 < k + 1 → ys[j + 1] ≠ -ys[j]) := hd fun hne j h h2 => by
        by_cases hjm : j + 1 = k
        · subst hjm; exact hne
        · exact HJ.out j h (by omega)
      have HJ2 : Hid (ys[k] = -ys[k - 1] → negAdj ys = true) := hd fun he => by
        obtain ⟨m, rfl⟩ : ∃ m, k = m + 1 := ⟨k - 1, by omega⟩
        exact HNA.out.2 ⟨m, hlt, he⟩
      generalize ys[k - 1]'(by omega) = y0 at *
      generalize ys[k] = y1 at *
      have hpos : 0 < k := by omega
      have hk2 : k ≤ ys.length := by omega
      have e3 : (0 : Int) ≤ (k : Int) := by omega
      have e4 : (0 : Int) ≤ (k : Int) - 1 := by omega
      have e5 : (k : Int) - 1 < (ys.length : Int) := by omega
      have hc2 : wr.cell? (a.add ((k : Int) - 1).toNat) = some (.int .i64 y0) := by rw [show ((k : Int) - 1).toNat = k - 1 from by omega]; exact hc'
      have hwk : IntKind.i64.wrap ((k : Int) - 1) = (k : Int) - 1 := IntWalk.i64_in _ (by omega)
      have hw0 : IntKind.i64.wrap (-y0) = -y0 := IntWalk.i64_in _ (by omega)
      obtain ⟨wo, rfl⟩ : ∃ wo : World, wo = wr := ⟨_, rfl⟩
      by_cases hne : y1 = -y0
      · have hq : (y1 == -y0) = true := by simp [hne]
        have HT := hd (HJ2.out hne)
        clear hne
        go_wp2_with fail
        go_quiet (fail)
        go_wp2
        go_ret2
        rw [HT.out]
        exact ⟨rfl, HX.out.trans (ext_drewN _ _)⟩
      · have hq : (y1 == -y0) = false := by simp [hne]
        have HT := hd (HJ1.out hne)
        clear hne
        go_wp2_with fail
        go_quiet (fail)
        go_wp2
        go_roundw
        case rel => exact ⟨k + 1, by omega, by omega, by go_num, own_ext HO.out (ext_drewN _ _), HX.out.trans (ext_drewN _ _), hd HT.out⟩
        case measure => simp [intOf]; omega
    · have HF : Hid (negAdj ys = false) := hd (by
        cases hn : negAdj ys with
        | false => rfl
        | true =>
          obtain ⟨j, hj, he⟩ := HNA.out.1 hn
          exact absurd he (HJ.out j hj (by omega)))
      go_wp2
      rw [HF.out]
      go_ret2
      exact ⟨_, rfl, HO.out, HX.out⟩
end Go.Proofs.Ytbdcomkbpapcaaa
