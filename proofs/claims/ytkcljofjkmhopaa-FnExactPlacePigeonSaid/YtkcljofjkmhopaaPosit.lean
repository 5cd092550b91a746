/-
  PositiveForm of both sides. Condition: sizes up to 2^20.
-/
import Derived.Test.YtkcljofjkmhopaaSort
import Derived.Test.YtkcljofjkmhopaaCount
namespace Go.Proofs.Ytkcljofjkmhopaa
open Go.RowKit
/-- The other pigeons 1 .. k than the one of the literal's variable (z: the variable less one), in its hole. -/
def pPart (m z k : Nat) : List Int := ((List.range k).filter fun i => i != z / m).map fun i : Nat => pvar m ((i : Int) + 1) ((z : Int) % (m : Int) + 1)
def pOne (m : Nat) (l : Int) : List Int := if 0 < l then [l] else pPart m (-l - 1).toNat (m + 1)
def posL (m : Nat) (c : List Int) : List Int := c.flatMap (pOne m)
theorem pPart_yes {m z k : Nat} (h : k ≠ z / m) : pPart m z (k + 1) = pPart m z k ++ [pvar m ((k : Int) + 1) ((z : Int) % (m : Int) + 1)] := by simp [pPart, List.range_succ, List.filter_append, h]
theorem pPart_no {m z k : Nat} (h : k = z / m) : pPart m z (k + 1) = pPart m z k := by simp [pPart, List.range_succ, List.filter_append, h]
theorem pPart_len (m z k : Nat) : (pPart m z k).length ≤ k := by
  unfold pPart
  rw [List.length_map]
  exact Nat.le_trans (List.length_filter_le _ _) (by simp)
theorem pOne_len (m : Nat) (l : Int) : (pOne m l).length ≤ m + 1 := by
  unfold pOne
  split
  · simp
  · exact pPart_len _ _ _
theorem posL_len (m : Nat) (c : List Int) : (posL m c).length ≤ (m + 1) * c.length := by
  induction c with
  | nil => simp [posL]
  | cons x r ih =>
    have h1 := pOne_len m x
    have e : posL m (x :: r) = pOne m x ++ posL m r := by simp [posL]
    rw [e, List.length_append, List.length_cons, Nat.mul_succ]
    omega
theorem posL_snoc (m : Nat) (c : List Int) (x : Int) : posL m (c ++ [x]) = posL m c ++ pOne m x := by simp [posL]
/-- Which pigeon is the literal's own. -/
theorem pvar_own {m z k : Nat} (hm : 1 ≤ m ∧ m ≤ 3) : (pvar m ((k : Int) + 1) ((z : Int) % (m : Int) + 1) = (z : Int) + 1) ↔ k = z / m := by
  unfold pvar
  have hm3 : m = 1 ∨ m = 2 ∨ m = 3 := by omega
  rcases hm3 with rfl | rfl | rfl <;> constructor <;> intro h <;> omega
theorem pvar_bd {m z k : Nat} (hm : 1 ≤ m ∧ m ≤ 3) (hk : k ≤ 3) : 1 ≤ pvar m ((k : Int) + 1) ((z : Int) % (m : Int) + 1) ∧ pvar m ((k : Int) + 1) ((z : Int) % (m : Int) + 1) ≤ 12 := by
  unfold pvar
  have hm3 : m = 1 ∨ m = 2 ∨ m = 3 := by omega
  rcases hm3 with rfl | rfl | rfl <;> constructor <;> omega
theorem posL_pos {m : Nat} (hm : 1 ≤ m ∧ m ≤ 3) {c : List Int} (hc : ∀ x ∈ c, -12 ≤ x ∧ x ≤ 12) : ∀ z ∈ posL m c, 1 ≤ z ∧ z ≤ 12 := by
  intro z hz
  obtain ⟨l, hl, hz⟩ := List.mem_flatMap.1 hz
  have := hc l hl
  unfold pOne at hz
  split at hz
  · obtain rfl := List.mem_singleton.1 hz; omega
  · unfold pPart at hz
    obtain ⟨k, hk, rfl⟩ := List.mem_map.1 hz
    have := List.mem_range.1 (List.mem_filter.1 hk).1
    exact pvar_bd hm (by omega)
theorem map_absW {l : List Int} (h : ∀ z ∈ l, 1 ≤ z ∧ z ≤ 12) : l.map absW = l := by
  conv => rhs; rw [← List.map_id l]
  refine List.map_congr_left fun z hz => ?_
  have := h z hz
  rw [absW_eq (by omega)]
  unfold absI
  rw [if_neg (by omega)]
  rfl
theorem takes_len {n : Int} {c : List Int} (h : takesB n c = true) : c.length ≤ 12 := by
  unfold takesB at h
  rw [Bool.and_eq_true] at h
  obtain ⟨_, b, _, d⟩ := clause_inv h.2
  omega
def posN (n : Int) (c : List Int) : List Int := if takesB n c then sortU (posL n.toNat c) else []
theorem foldP_le (ks P : List Int) : (ks.foldl putI P).length ≤ P.length + ks.length := by
  induction ks generalizing P with
  | nil => simp
  | cons x r ih => rw [List.foldl_cons]; have := ih (putI P x); have := putI_le P x; simp; omega
theorem posN_bd (n : Int) (c : List Int) : Bd_IntS (posN n c) := by
  unfold posN Bd_IntS
  split
  · rename_i h
    have h1 := sortU_len (posL n.toNat c)
    have h2 := posL_len n.toNat c
    have h3 := takes_len h
    obtain ⟨⟨m, rfl, hm⟩, _⟩ := takes_inv h
    rw [Int.toNat_natCast] at *
    have : (m + 1) * c.length ≤ 4 * 12 := Nat.mul_le_mul (by omega) h3
    omega
  · simp
set_option maxRecDepth 100000 in
set_option maxHeartbeats 3200000 in
theorem s_PositiveForm (n : Int) (c : List Int) (v : Value) (w : World) (_ : I64 n) (h : RdI w v c) (b : Bd_IntS c) (_ : I64_IntS c) :
    Calls Try.prog 33 #[.int .i64 n, v] w (RetL2 w (posN n c) (takesB n c)) := by
  have HV := hd h
  have HB := hd b
  obtain ⟨A, cc, rfl, h1, h2, ha⟩ := h.form
  clear h b
  obtain ⟨q, hq⟩ : ∃ q, takesB n c = q := ⟨_, rfl⟩
  have HQ := hd hq
  have HI := hd (fun e => takes_inv (hq.trans e) : q = true → _)
  have HLN := hd (fun e => takes_len (hq.trans e) : q = true → _)
  clear hq
  go_enter Try.func33, Try.ntmps33
  go_wp2_with fail
  refine (s_l28Takes n c _ _ (HV.out.ext (by exact Ext.new _ _)) HB.out).mono ?_
  rw [HQ.out]
  rintro e w1 ⟨rfl, k, rfl⟩
  have X0 : Hid (Ext w ((w.alloc (.cells #[] 3)).drewN k)) := hd ((Ext.new _ _).drewN _)
  have O0 : Hid (OwnI ((w.alloc (.cells #[] 3)).drewN k) w.heap.size 3 (.slice (some ⟨w.heap.size, 0, none⟩) 0 0) []) := hd (ownI_emp' rfl (Nat.le_refl _))
  cases q
  · go_wp2
    go_ret2
    exact RetL2.mk HQ.out.symm (by unfold posN; rw [HQ.out]; exact O0.out) X0.out
  · obtain ⟨⟨m, rfl, hm⟩, hlit⟩ := HI.out (by simp)
    have hcl : c.length ≤ 12 := HLN.out (by simp)
    have HLIT := hd hlit
    have HP : Hid (posN (m : Int) c = (posL m c).foldl putI []) := hd (by unfold posN; rw [HQ.out, if_pos rfl, Int.toNat_natCast, foldP_sortU])
    have HPL : Hid (∀ j, (posL m (c.take j)).length ≤ 4 * 12) := hd fun j => Nat.le_trans (posL_len m _) (Nat.mul_le_mul (by omega) (by simp; omega))
    clear hlit HI HLN
    obtain ⟨hm1, hm2⟩ := hm
    go_wp2
    go_loopw [7, 6] (fun i pv wr => ∃ k : Nat, k ≤ c.length ∧ i = .int .i64 k ∧ OwnI wr w.heap.size 3 pv ((posL m (c.take k)).foldl putI []) ∧ Ext w wr) (fun i _ _ => c.length - (intOf i).toNat)
    case atStart => exact ⟨0, by omega, rfl, O0.out, X0.out⟩
    case round =>
      obtain ⟨k, hk, rfl, ho, hx⟩ := hrel
      have HX := hd hx
      have HO := hd ho
      clear ho hx
      have hpl := HPL.out k
      have hfl := foldP_le (posL m (c.take k)) []
      by_cases hlt : k < c.length
      · obtain ⟨a, rfl, hc0⟩ := RdI.at_ ha hlt
        have hc := HX.out.cell hc0
        have hy := HLIT.out _ (List.getElem_mem hlt)
        have HT : Hid (c.take (k + 1) = c.take k ++ [c[k]]) := hd (List.take_succ_eq_append_getElem hlt)
        have HC0 := hd hc0
        clear hc0
        generalize c[k] = y at *
        obtain ⟨hy1, hy2, hy3⟩ := hy
        by_cases hpos : 0 < y
        · have HO1 : Hid (posL m (c.take (k + 1)) = posL m (c.take k) ++ [y]) := hd (by rw [HT.out, posL_snoc, pOne, if_pos hpos])
          go_wp2_with fail
          refine (s_l1Put _ _ y _ w.heap.size HO.out (by simp at hfl; omega) HX.out.size).mono ?_
          rintro e w3 ⟨u3, rfl, hu3, hx3⟩
          go_wp2
          go_roundw
          case rel => exact ⟨k + 1, by omega, by go_num, by rw [HO1.out, List.foldl_append]; exact hu3, HX.out.trans hx3⟩
          case measure => simp [intOf]; omega
        · obtain ⟨z, rfl⟩ : ∃ z : Nat, y = -(z : Int) - 1 := ⟨(-y - 1).toNat, by omega⟩
          have hz : z ≤ 11 := by omega
          have HO1 : Hid (posL m (c.take (k + 1)) = posL m (c.take k) ++ pPart m z (m + 1)) := hd (by rw [HT.out, posL_snoc, pOne, if_neg hpos, show (-(-(z : Int) - 1) - 1).toNat = z from by omega])
          have hzm1 : 0 ≤ (z : Int) % (m : Int) := Int.emod_nonneg _ (by omega)
          have hzm2 : (z : Int) % (m : Int) < (m : Int) := Int.emod_lt_of_pos _ (by omega)
          have hw1 : IntKind.i64.wrap (-(-(z : Int) - 1)) = (z : Int) + 1 := by rw [show -(-(z : Int) - 1) = (z : Int) + 1 from by omega]; exact IntWalk.i64_in _ (by omega)
          obtain ⟨wo, rfl⟩ : ∃ wo : World, wo = wr := ⟨_, rfl⟩
          go_wp2
          go_loopw [9, 6] (fun i pv wr => ∃ j : Nat, j ≤ m + 1 ∧ i = .int .i64 ((j : Int) + 1) ∧ OwnI wr w.heap.size 3 pv ((posL m (c.take k) ++ pPart m z j).foldl putI []) ∧ Ext w wr) (fun i _ _ => m + 2 - (intOf i).toNat)
          case atStart => exact ⟨0, by omega, rfl, by simpa [pPart] using HO.out, HX.out⟩
          case round =>
            clear hc
            obtain ⟨j, hj, rfl, ho, hx⟩ := hrel
            have HX2 := hd hx
            have hc2 := hx.cell HC0.out
            have HO2 := hd ho
            clear ho hx
            have hfl2 := foldP_le (posL m (c.take k) ++ pPart m z j) []
            have hpp := pPart_len m z j
            by_cases hlt2 : j < m + 1
            · have hpv := pvar_bd (m := m) (z := z) (k := j) (by omega) (by omega)
              have hne : (pvar m ((j : Int) + 1) ((z : Int) % (m : Int) + 1) != (z : Int) + 1) = !decide (j = z / m) := by
                rw [Bool.eq_iff_iff, bne_iff_ne, Ne, pvar_own (m := m) (z := z) (k := j) (by omega)]
                simp
              have hcl2 : ((posL m (c.take k) ++ pPart m z j).foldl putI []).length ≤ 1048576 := Nat.le_trans hfl2 (by rw [List.length_append, List.length_nil]; omega)
              by_cases e : j = z / m
              · have HNO := hd (pPart_no (m := m) (z := z) e)
                rw [decide_eq_true e] at hne
                clear e hfl2
                go_wp2_with fail
                refine (s_l17Var m ((j : Int) + 1) ((z : Int) % (m : Int) + 1) _ (by omega) (by omega) (by omega)).mono ?_
                rintro e1 w1 ⟨rfl, rfl⟩
                generalize pvar m ((j : Int) + 1) ((z : Int) % (m : Int) + 1) = pv at *
                go_wp2
                go_roundw
                case rel => exact ⟨j + 1, by omega, by go_num, by rw [HNO.out]; exact HO2.out, HX2.out⟩
                case measure => simp [intOf]; omega
              · have HYE := hd (pPart_yes (m := m) (z := z) e)
                rw [decide_eq_false e] at hne
                clear e hfl2
                go_wp2_with fail
                refine (s_l17Var m ((j : Int) + 1) ((z : Int) % (m : Int) + 1) _ (by omega) (by omega) (by omega)).mono ?_
                rintro e1 w1 ⟨rfl, rfl⟩
                generalize pvar m ((j : Int) + 1) ((z : Int) % (m : Int) + 1) = pv at *
                go_wp2_with fail
                refine (s_l1Put _ _ pv _ w.heap.size HO2.out hcl2 HX2.out.size).mono ?_
                rintro e1 w3 ⟨u3, rfl, hu3, hx3⟩
                go_wp2
                go_roundw
                case rel => exact ⟨j + 1, by omega, by go_num, by rw [HYE.out, ← List.append_assoc, List.foldl_append]; exact hu3, HX2.out.trans hx3⟩
                case measure => simp [intOf]; omega
            · obtain rfl : j = m + 1 := by omega
              go_wp2
              go_roundw
              case rel => exact ⟨k + 1, by omega, by go_num, by rw [HO1.out]; exact HO2.out, HX2.out⟩
              case measure => simp [intOf]; omega
      · obtain rfl : k = c.length := by omega
        have HT : Hid (c.take c.length = c) := hd (List.take_of_length_le (Nat.le_refl _))
        rw [HT.out] at HO
        go_wp2
        go_ret2
        exact RetL2.mk HQ.out.symm (by rw [HP.out]; exact HO.out) HX.out
/-- A slice of one slice, in a block of its own. -/
theorem rdSS_one {w W : World} {e : TypeId} {u : Value} {xs : List Int} (h : RdI W u xs) (hx : Ext (w.alloc (.cells #[u] e)) W) : RdSS W (.slice (some ⟨w.heap.size, 0, none⟩) 1 1) [xs] := by
  refine ⟨[u], Rd.ext (s := 1) (n := 1) (cs := [u]) ⟨rfl, some ⟨w.heap.size, 0, none⟩, 1, rfl, Nat.le_refl _, by unfold maxLen; omega, fun j x hx => ⟨_, rfl, ?_⟩⟩ hx, fun i ys hi => ?_⟩
  · exact cell_one_new w _ e j x hx
  · cases i with
    | zero => obtain rfl : xs = ys := by simpa using hi
              exact ⟨u, rfl, h⟩
    | succ i => simp at hi
set_option maxRecDepth 100000 in
set_option maxHeartbeats 3200000 in
theorem i_PositiveForm (n : Int) (c : List Int) (v : Value) (w : World) (_ : I64 n) (h : RdI w v c) (b : Bd_IntS c) (_ : I64_IntS c) :
    Calls Try.prog 35 #[.int .i64 n, v] w (RetL2 w (posN n c) (takesB n c)) := by
  have HV := hd h
  have HB := hd b
  obtain ⟨A, cc, rfl, h1, h2, ha⟩ := h.form
  clear h b
  obtain ⟨q, hq⟩ : ∃ q, takesB n c = q := ⟨_, rfl⟩
  have HQ := hd hq
  have HI := hd (fun e => takes_inv (hq.trans e) : q = true → _)
  have HLN := hd (fun e => takes_len (hq.trans e) : q = true → _)
  clear hq
  go_enter Try.func35, Try.ntmps35
  go_wp2_with fail
  refine (i_pigeonClause n c _ _ HV.out HB.out).mono ?_
  rw [HQ.out]
  rintro e w1 ⟨rfl, kd, rfl⟩
  have X0 : Hid (Ext w (w.drewN kd)) := hd (ext_drewN _ _)
  cases q
  · go_wp2
    go_ret2
    exact RetL2.mk HQ.out.symm (by unfold posN; rw [HQ.out]; exact ownI_nil _ _ _) X0.out
  · obtain ⟨⟨m, rfl, hm⟩, hlit⟩ := HI.out (by simp)
    have hcl : c.length ≤ 12 := HLN.out (by simp)
    have HLIT := hd hlit
    have HABS : Hid ((posL m c).map absW = posL m c) := hd (map_absW (posL_pos hm fun x hx => by have := hlit x hx; omega))
    have HP : Hid (posN (m : Int) c = sortU (posL m c)) := hd (by unfold posN; rw [HQ.out, if_pos rfl, Int.toNat_natCast])
    have HPL : Hid (∀ j, (posL m (c.take j)).length ≤ 4 * 12) := hd fun j => Nat.le_trans (posL_len m _) (Nat.mul_le_mul (by omega) (by simp; omega))
    clear hlit HI HLN
    obtain ⟨hm1, hm2⟩ := hm
    go_wp2
    go_loopw [18, 6] (fun i pv wr => ∃ k : Nat, k ≤ c.length ∧ i = .int .i64 k ∧ OwnI wr w.heap.size 3 pv (posL m (c.take k)) ∧ Ext w wr) (fun i _ _ => c.length - (intOf i).toNat)
    case atStart => exact ⟨0, by omega, rfl, ownI_nil _ _ _, X0.out⟩
    case round =>
      obtain ⟨k, hk, rfl, ho, hx⟩ := hrel
      have HX := hd hx
      have HO := hd ho
      clear ho hx
      have hpl := HPL.out k
      by_cases hlt : k < c.length
      · obtain ⟨a, rfl, hc0⟩ := RdI.at_ ha hlt
        have hc := HX.out.cell hc0
        have hy := HLIT.out _ (List.getElem_mem hlt)
        have HT : Hid (c.take (k + 1) = c.take k ++ [c[k]]) := hd (List.take_succ_eq_append_getElem hlt)
        clear hc0
        generalize c[k] = y at *
        obtain ⟨hy1, hy2, hy3⟩ := hy
        by_cases hpos : 0 < y
        · have HO1 : Hid (posL m (c.take (k + 1)) = posL m (c.take k) ++ [y]) := hd (by rw [HT.out, posL_snoc, pOne, if_pos hpos])
          go_wp2_with (at_builtin; refine appI wr HO.out rfl _ _ rfl _ (by rfl) (by rfl) (by omega) HX.out.size ?_; intro v' w1 ho1 hg1 _)
          go_roundw
          case rel => exact ⟨k + 1, by omega, by go_num, by rw [HO1.out]; exact ho1, ext_app HX.out hg1 (ownI_ge HO.out)⟩
          case measure => simp [intOf]; omega
        · obtain ⟨z, rfl⟩ : ∃ z : Nat, y = -(z : Int) - 1 := ⟨(-y - 1).toNat, by omega⟩
          have hz : z ≤ 11 := by omega
          have HO1 : Hid (posL m (c.take (k + 1)) = posL m (c.take k) ++ pPart m z (m + 1)) := hd (by rw [HT.out, posL_snoc, pOne, if_neg hpos, show (-(-(z : Int) - 1) - 1).toNat = z from by omega])
          have hzm1 : 0 ≤ (z : Int) % (m : Int) := Int.emod_nonneg _ (by omega)
          have hzm2 : (z : Int) % (m : Int) < (m : Int) := Int.emod_lt_of_pos _ (by omega)
          have hzd1 : 0 ≤ (z : Int) / (m : Int) := Int.ediv_nonneg (by omega) (by omega)
          have hzd2 : (z : Int) / (m : Int) ≤ 11 := by have := Int.ediv_le_self (m : Int) (show (0 : Int) ≤ z from by omega); omega
          have hw1 : IntKind.i64.wrap (-(-(z : Int) - 1)) = (z : Int) + 1 := by rw [show -(-(z : Int) - 1) = (z : Int) + 1 from by omega]; exact IntWalk.i64_in _ (by omega)
          have hw2 : IntKind.i64.wrap ((z : Int) + 1 - 1) = (z : Int) := by rw [show (z : Int) + 1 - 1 = (z : Int) from by omega]; exact IntWalk.i64_in _ (by omega)
          obtain ⟨wo, rfl⟩ : ∃ wo : World, wo = wr := ⟨_, rfl⟩
          go_wp2_with fail
          go_quiet (fail)
          go_wp2
          go_loopw [11, 6] (fun i pv wr => ∃ j : Nat, j ≤ m + 1 ∧ i = .int .i64 ((j : Int) + 1) ∧ OwnI wr w.heap.size 3 pv (posL m (c.take k) ++ pPart m z j) ∧ Ext w wr) (fun i _ _ => m + 2 - (intOf i).toNat)
          case atStart => exact ⟨0, by omega, rfl, by simpa [pPart, OwnI] using own_ext HO.out (ext_drewN _ _), HX.out.trans (ext_drewN _ _)⟩
          case round =>
            clear hc
            obtain ⟨j, hj, rfl, ho, hx⟩ := hrel
            have HX2 := hd hx
            have HO2 := hd ho
            clear ho hx
            have hpp := pPart_len m z j
            have hlen : (posL m (c.take k) ++ pPart m z j).length ≤ 1048576 := by rw [List.length_append]; omega
            by_cases hlt2 : j < m + 1
            · by_cases e : j = z / m
              · have HNO := hd (pPart_no (m := m) (z := z) e)
                have hjz : ((j : Int) + 1 != (z : Int) / (m : Int) + 1) = false := by rw [e]; simp
                clear e
                go_wp2
                go_roundw
                case rel => exact ⟨j + 1, by omega, by go_num, by rw [HNO.out]; exact HO2.out, HX2.out⟩
                case measure => simp [intOf]; omega
              · have HYE := hd (pPart_yes (m := m) (z := z) e)
                have hjz : ((j : Int) + 1 != (z : Int) / (m : Int) + 1) = true := by simp; omega
                clear e
                go_wp2_with fail
                refine (i_pigeonVar m ((j : Int) + 1) ((z : Int) % (m : Int) + 1) _ (by omega) (by omega) (by omega)).mono ?_
                rintro e1 w1 ⟨rfl, rfl⟩
                generalize pvar m ((j : Int) + 1) ((z : Int) % (m : Int) + 1) = pv at *
                go_wp2_with (at_builtin; refine appI wr HO2.out rfl _ _ rfl _ (by rfl) (by rfl) (by omega) HX2.out.size ?_; intro v' w1 ho1 hg1 _)
                go_roundw
                case rel => exact ⟨j + 1, by omega, by go_num, by rw [HYE.out, ← List.append_assoc]; exact ho1, ext_app HX2.out hg1 (ownI_ge HO2.out)⟩
                case measure => simp [intOf]; omega
            · obtain rfl : j = m + 1 := by omega
              go_wp2
              go_roundw
              case rel => exact ⟨k + 1, by omega, by go_num, by rw [HO1.out]; exact HO2.out, HX2.out⟩
              case measure => simp [intOf]; omega
      · obtain rfl : k = c.length := by omega
        rw [List.take_of_length_le (Nat.le_refl _)] at HO hpl
        obtain ⟨A4, c4, rfl, h44, h45, -⟩ := HO.out.rd.form
        go_wp2_with fail
        refine (i_varsOf [posL m c] _ _ (rdSS_one (HO.out.rd.ext (Ext.alloc (Ext.refl _) _)) (Ext.refl _)) (by simp; omega) (by simp)).mono ?_
        rintro e w2 ⟨u, rfl, hu, hx2⟩
        go_wp2
        go_ret2
        exact RetL2.mk HQ.out.symm (by rw [HP.out]; have := hu; rw [show ([posL m c] : List (List Int)).flatten = posL m c from by simp, HABS.out] at this; exact own_rebase this (Nat.le_trans HX.out.size (by simp))) (Ext.trans (HX.out.alloc _) hx2)
end Go.Proofs.Ytkcljofjkmhopaa
