/-
  slices.Sort and slices.Compact at lists of numbers, and the program's varsOf. Conditions: list lengths up to 2^20.
-/
import Derived.Test.YtgkifandgacncaaSortM
import Derived.Test.YtgkifandgacncaaC2
import Derived.Test.YtgkifandgacncaaShl
import Derived.Sort.OwnSortedInts
import Derived.Lib.OwnBridge
namespace Go.Proofs.Ytgkifandgacncaa
open Go.RowKit Go.Sort
theorem slices_SortI (xs : List Int) (v : Value) (w : World) (lo : Nat) (h : OwnI w lo 3 v xs) (hl : xs.length ≤ 1073741824) :
    Calls Try.prog 65 #[v] w (fun e w' => e = .returned (.tuple #[]) ∧ OwnI w' lo 3 v (xs.mergeSort fun x y => decide (x ≤ y)) ∧ w.grownBy w' v.ownBlock) := by
  have hlm : (xs.mergeSort fun x y => decide (x ≤ y)).length = xs.length := List.length_mergeSort xs
  have h0 := h
  rcases h.2 with ⟨rfl, hn⟩ | ⟨g, cap, cur, rfl, hb, hg, hnc, hcm, hcs, ht⟩
  · obtain rfl : xs = [] := List.eq_nil_of_length_eq_zero hn
    refine (sl_Sort_none none 0 w).mono ?_
    rintro e w' ⟨rfl, rfl⟩
    exact ⟨rfl, by simpa using h0, grown_refl _ _⟩
  · have hH : Holds (Value.int .i64) w g 0 xs.toArray := holds_of_blockI hg (by simpa [ints] using ht)
    refine (sl_Sort g 0 cap xs w hH (Array.getElem?_eq_some_iff.1 hg).1 (by omega)).mono ?_
    rintro e w' ⟨rfl, n, os, rfl⟩
    refine ⟨rfl, ?_, grownBy_sortedI _⟩
    have := ownsRow_sortedI (n := n) (os := os) (base := lo) hlm hb hg hnc hcm hcs
    unfold OwnI
    rw [hlm]
    exact this
theorem slices_CompactI (xs : List Int) (v : Value) (w : World) (lo : Nat) (h : OwnI w lo 3 v xs) (hl : xs.length ≤ 1073741824) :
    Calls Try.prog 66 #[v] w (fun e w' => ∃ v', e = .returned v' ∧ OwnI w' lo 3 v' (Lib.compact xs) ∧ w.grownBy w' v.ownBlock ∧ v'.ownBlock = v.ownBlock) := by
  have h0 := h
  have hle := Lib.compact_length_le xs
  rcases h.2 with ⟨rfl, hn⟩ | ⟨g, cap, cur, rfl, hb, hg, hnc, hcm, hcs, ht⟩
  · obtain rfl : xs = [] := List.eq_nil_of_length_eq_zero hn
    refine (sl_Compact_empty none 0 w).mono ?_
    rintro e w' ⟨rfl, rfl⟩
    exact ⟨_, rfl, h0, grown_refl _ _, rfl⟩
  · have hH : Holds (Value.int .i64) w g 0 xs.toArray := holds_of_blockI hg (by simpa [ints] using ht)
    refine (sl_Compact g 0 cap xs w hH (by omega) hnc).mono ?_
    rintro e w' ⟨rfl, q, rfl⟩
    have hc := Lib.ownsRow_putRow (q := q) (k := (Lib.compact xs).length) (ys := Lib.compact xs ++ List.replicate (xs.length - (Lib.compact xs).length) 0) h0 (by simp; omega) hle
    rw [List.take_left] at hc
    refine ⟨_, rfl, hc, ?_, rfl⟩
    exact ⟨rfl, rfl, rfl, by simp [putRow, mapBlock, Sort.ahead], fun k hk hne => by
      have : g ≠ k := fun e => hne (by rw [e]; rfl)
      simp [putRow, mapBlock, Sort.ahead, Array.getElem?_modify, this]⟩
set_option maxHeartbeats 1600000 in
theorem i_varsOf (xss : List (List Int)) (v : Value) (w : World) (h : RdSS w v xss) (hl : xss.flatten.length ≤ 1048576) (hn : xss.length ≤ 1048576) :
    Calls Try.prog 50 #[v] w (RetI w 3 (sortU (xss.flatten.map absW))) := by
  obtain ⟨A, c, rfl, h1, h2, ha⟩ := h.form
  clear h
  have HFL : Hid (∀ k, (xss.take k).flatten.length ≤ 1048576) := hd fun k => by
    have : xss.flatten = (xss.take k).flatten ++ (xss.drop k).flatten := by rw [← List.flatten_append, List.take_append_drop]
    rw [this, List.length_append] at hl
    omega
  go_enter Try.func50, Try.ntmps50
  go_wp2
  go_loopw [10, 3] (fun i v wr => ∃ k : Nat, k ≤ xss.length ∧ i = .int .i64 k ∧ OwnI wr w.heap.size 3 v ((xss.take k).flatten.map absW) ∧ Ext w wr) (fun i _ _ => xss.length - (intOf i).toNat)
  case atStart => exact ⟨0, by omega, rfl, ownI_nil _ _ _, Ext.refl _⟩
  case round =>
    obtain ⟨k, hk, rfl, ho, hx⟩ := hrel
    have HO := hd ho
    have HX := hd hx
    clear ho hx
    by_cases hlt : k < xss.length
    · obtain ⟨a, u, rfl, hc0, hr0⟩ := RdSS.at_ ha hlt
      have hc := HX.out.cell hc0
      have HF : Hid ((xss.take (k + 1)).flatten = (xss.take k).flatten ++ xss[k]) := hd (by rw [List.take_succ_eq_append_getElem hlt, List.flatten_append, List.flatten_cons, List.flatten_nil, List.append_nil])
      have hfl : (xss.take k).flatten.length + xss[k].length ≤ 1048576 := by have := HFL.out (k + 1); rw [HF.out, List.length_append] at this; exact this
      clear hc0
      generalize xss[k] = ys at *
      obtain ⟨B, d, rfl, h3, h4, hb⟩ := hr0.form
      clear hr0
      obtain ⟨wo, rfl⟩ : ∃ wo : World, wo = wr := ⟨_, rfl⟩
      go_wp2
      go_loopw [16, 3] (fun i v wr => ∃ j : Nat, j ≤ ys.length ∧ i = .int .i64 j ∧ OwnI wr w.heap.size 3 v (((xss.take k).flatten ++ ys.take j).map absW) ∧ Ext w wr) (fun i _ _ => ys.length - (intOf i).toNat)
      case atStart => exact ⟨0, by omega, rfl, by simpa using HO.out, HX.out⟩
      case round =>
        clear hc
        obtain ⟨j, hj, rfl, ho, hx⟩ := hrel
        have HO2 := hd ho
        have HX2 := hd hx
        clear ho hx
        by_cases hlt2 : j < ys.length
        · obtain ⟨b, rfl, hc1⟩ := RdI.at_ hb hlt2
          have hc2 := HX2.out.cell hc1
          have HT : Hid ((((xss.take k).flatten ++ ys.take (j + 1)).map absW) = ((xss.take k).flatten ++ ys.take j).map absW ++ [absW ys[j]]) := hd (by rw [List.take_succ_eq_append_getElem hlt2, ← List.append_assoc, List.map_append]; rfl)
          clear hc1
          have hlen : (((xss.take k).flatten ++ ys.take j).map absW).length ≤ 1048576 := by rw [List.length_map, List.length_append, List.length_take]; omega
          generalize ys[j] = z at *
          go_wp2_with (first | (go_at_call 64; refine (i_abs _ _).mono ?_; rintro e w1 ⟨rfl, rfl⟩) | (at_builtin; refine appI wr HO2.out rfl _ _ rfl _ (by rfl) (by rfl) (by omega) HX2.out.size ?_; intro v' w1 ho1 hg1 _))
          go_roundw
          case rel => exact ⟨j + 1, by omega, by go_num, by rw [HT.out]; exact ho1, ext_app HX2.out hg1 (ownI_ge HO2.out)⟩
          case measure => simp [intOf]; omega
        · obtain rfl : j = ys.length := by omega
          go_wp2
          go_roundw
          case rel => exact ⟨k + 1, by omega, by go_num, by rw [HF.out]; have := HO2.out; rw [List.take_of_length_le (Nat.le_refl _)] at this; exact this, HX2.out⟩
          case measure => simp [intOf]; omega
    · obtain rfl : k = xss.length := by omega
      rw [List.take_of_length_le (Nat.le_refl _)] at HO
      have hlen : (xss.flatten.map absW).length ≤ 1073741824 := by rw [List.length_map]; omega
      have HC := hd (Lib.compact_length_le ((xss.flatten.map absW).mergeSort fun x y => decide (x ≤ y)))
      have HML := hd (List.length_mergeSort (xss.flatten.map absW) (le := fun x y => decide (x ≤ y)))
      go_wp2_with fail
      refine (slices_SortI _ _ _ w.heap.size HO.out hlen).mono ?_
      rintro e w1 ⟨rfl, ho1, hg1⟩
      have HO1 := hd ho1
      have HX1 := hd (ext_appS HX.out hg1 (ownI_ge HO.out))
      clear ho1 hg1
      go_wp2_with fail
      refine (slices_CompactI _ _ _ w.heap.size HO1.out (by rw [HML.out]; exact hlen)).mono ?_
      rintro e w2 ⟨u, rfl, ho2, hg2, hu2⟩
      go_wp2
      go_ret
      exact ⟨_, rfl, ho2, ext_appS HX1.out hg2 (ownI_ge HO1.out)⟩
end Go.Proofs.Ytgkifandgacncaa
