/-
  PlacePigeon of the impl's side. Condition: none beyond the argument's range.
-/
import Derived.Test.YtkcljofjkmhopaaPlace
import Derived.Test.YtkcljofjkmhopaaMust
namespace Go.Proofs.Ytkcljofjkmhopaa
open Go.RowKit
theorem rowP_succ (m : Nat) (i j : Int) (n : Nat) : rowP m i j (n + 1) = rowP m i j n ++ (if (n : Int) + 1 = j then [] else [-(pvar m i ((n : Int) + 1))]) := by simp [rowP, List.range_succ]
theorem colP_succ (m : Nat) (i j : Int) (n : Nat) : colP m i j (n + 1) = colP m i j n ++ (if (n : Int) + 1 = i then [] else [-(pvar m ((n : Int) + 1) j)]) := by simp [colP, List.range_succ]
theorem rowP_len (m : Nat) (i j : Int) (n : Nat) : (rowP m i j n).length ≤ n := by
  induction n with
  | zero => simp [rowP]
  | succ n ih => rw [rowP_succ, List.length_append]; split <;> simp <;> omega
theorem colP_len (m : Nat) (i j : Int) (n : Nat) : (colP m i j n).length ≤ n := by
  induction n with
  | zero => simp [colP]
  | succ n ih => rw [colP_succ, List.length_append]; split <;> simp <;> omega
theorem place_ok {m : Nat} {i j : Int} (hm : 1 ≤ m ∧ m ≤ 3) (hi : 1 ≤ i ∧ i ≤ (m : Int) + 1) (hj : 1 ≤ j ∧ j ≤ (m : Int)) :
    (plL m i j (m + 1)).Perm (rawP m i j) ∧ (plL m i j (m + 1)).Pairwise (fun x y => absI x < absI y) ∧ (∀ x ∈ plL m i j (m + 1), -1000 ≤ x ∧ x ≤ 1000) := by
  obtain ⟨a, rfl⟩ : ∃ a : Nat, i = (a : Int) + 1 := ⟨(i - 1).toNat, by omega⟩
  obtain ⟨b, rfl⟩ : ∃ b : Nat, j = (b : Int) + 1 := ⟨(j - 1).toNat, by omega⟩
  obtain ⟨h1, h2, h3⟩ := place_all m (by simp; omega) a (by simp; omega) b (by simp; omega) (by omega) (by omega)
  exact ⟨List.isPerm_iff.1 h1, h2, fun x hx => by have := h3 x hx; omega⟩
def pvV (n i j : Int) : Int := if placeB n i j then pvar n i j else 0
set_option maxHeartbeats 800000 in
theorem i_PigeonVariable (n i j : Int) (w : World) : Calls Try.prog 78 #[.int .i64 n, .int .i64 i, .int .i64 j] w (Ret w (.tuple #[.int .i64 (pvV n i j), .bool (placeB n i j)])) := by
  have HPI := hd (@place_inv n i j)
  obtain ⟨q1, hq1⟩ : ∃ q, holesB n = q := ⟨_, rfl⟩
  have HQ1 := hd hq1
  cases q1
  · have HP : Hid (placeB n i j = false) := hd (by unfold placeB; rw [hq1]; rfl)
    clear hq1
    go_enter Try.func78, Try.ntmps78
    go_wp2_with fail
    refine (rt (i_holesOk n _) HQ1).mono ?_
    rintro e w1 ⟨rfl, rfl⟩
    go_wp2
    go_ret2
    exact Ret.mk (by unfold pvV; rw [HP.out]; rfl)
  · have h13 := inB_iff.1 (show inB n 1 3 = true from hq1)
    obtain ⟨q2, hq2⟩ : ∃ q, inB i 1 (n + 1) = q := ⟨_, rfl⟩
    have HQ2 := hd hq2
    cases q2
    · have HP : Hid (placeB n i j = false) := hd (by unfold placeB; rw [hq1, hq2]; rfl)
      clear hq1 hq2
      go_enter Try.func78, Try.ntmps78
      go_wp2_with fail
      refine (rt (i_holesOk n _) HQ1).mono ?_
      rintro e w1 ⟨rfl, rfl⟩
      go_wp2_with fail
      refine (rt (i_within i 1 (n + 1) _) HQ2).mono ?_
      rintro e w1 ⟨rfl, rfl⟩
      go_wp2
      go_ret2
      exact Ret.mk (by unfold pvV; rw [HP.out]; rfl)
    · obtain ⟨q3, hq3⟩ : ∃ q, inB j 1 n = q := ⟨_, rfl⟩
      have HQ3 := hd hq3
      have hP : placeB n i j = q3 := by unfold placeB; rw [hq1, hq2, hq3]; rfl
      have HP := hd hP
      cases q3
      · clear hq1 hq2 hq3 hP
        go_enter Try.func78, Try.ntmps78
        go_wp2_with fail
        refine (rt (i_holesOk n _) HQ1).mono ?_
        rintro e w1 ⟨rfl, rfl⟩
        go_wp2_with fail
        refine (rt (i_within i 1 (n + 1) _) HQ2).mono ?_
        rintro e w1 ⟨rfl, rfl⟩
        go_wp2_with fail
        refine (rt (i_within j 1 n _) HQ3).mono ?_
        rintro e w1 ⟨rfl, rfl⟩
        go_wp2
        go_ret2
        exact Ret.mk (by unfold pvV; rw [HP.out]; rfl)
      · obtain ⟨⟨m, rfl, hm1, hm2⟩, hi, hj⟩ := place_inv hP
        have hmul1 : 0 ≤ (i - 1) * (m : Int) := Int.mul_nonneg (by omega) (by omega)
        have hmul2 : (i - 1) * (m : Int) ≤ 3 * 3 := Int.mul_le_mul (by omega) (by omega) (by omega) (by omega)
        clear hq1 hq2 hq3 hP h13
        go_enter Try.func78, Try.ntmps78
        go_wp2_with fail
        refine (rt (i_holesOk m _) HQ1).mono ?_
        rintro e w1 ⟨rfl, rfl⟩
        go_wp2_with fail
        refine (rt (i_within i 1 (m + 1) _) HQ2).mono ?_
        rintro e w1 ⟨rfl, rfl⟩
        go_wp2_with fail
        refine (rt (i_within j 1 m _) HQ3).mono ?_
        rintro e w1 ⟨rfl, rfl⟩
        go_wp2
        go_ret2
        exact Ret.mk (by unfold pvV; rw [HP.out]; rfl)
set_option maxRecDepth 100000 in
set_option maxHeartbeats 3200000 in
theorem i_PlacePigeon (n i j : Int) (w : World) (_ : I64 n) (_ : I64 i) (_ : I64 j) :
    Calls Try.prog 32 #[.int .i64 n, .int .i64 i, .int .i64 j] w (RetL2 w (placeV n i j) (placeB n i j)) := by
  have HPV := hd (i_PigeonVariable n i j w)
  obtain ⟨q, hq⟩ : ∃ q, placeB n i j = q := ⟨_, rfl⟩
  have HQ := hd hq
  rw [hq] at HPV
  cases q
  · clear hq
    go_enter Try.func32, Try.ntmps32
    go_wp2_with fail
    refine HPV.out.mono ?_
    rintro e w1 ⟨rfl, rfl⟩
    go_wp2
    go_ret2
    exact RetL2.mk HQ.out.symm (by unfold placeV; rw [HQ.out]; exact ownI_nil _ _ _) (Ext.refl _)
  · obtain ⟨⟨m, rfl, hm1, hm2⟩, hi, hj⟩ := place_inv hq
    have HV : Hid (placeV (m : Int) i j = plL m i j (m + 1)) := hd (by unfold placeV; rw [hq, if_pos rfl, Int.toNat_natCast])
    have HOK := hd (place_ok ⟨hm1, hm2⟩ hi hj)
    have HRAW : Hid (rawP m i j = [pvar m i j] ++ rowP m i j m ++ colP m i j (m + 1)) := hd rfl
    have hpb : ∀ a b : Int, 1 ≤ a ∧ a ≤ (m : Int) + 1 → 1 ≤ b ∧ b ≤ (m : Int) → 1 ≤ pvar m a b ∧ pvar m a b ≤ 12 := by
      intro a b ha hb
      unfold pvar
      have hm3 : m = 1 ∨ m = 2 ∨ m = 3 := by omega
      rcases hm3 with rfl | rfl | rfl <;> omega
    have HPB := hd hpb
    clear hpb
    have hif : pvV (m : Int) i j = pvar (m : Int) i j := by unfold pvV; rw [hq, if_pos rfl]
    rw [hif] at HPV
    clear hif hq
    have HPC : Hid (∀ (a b : Int) (w : World), 1 ≤ a ∧ a ≤ 1000 → 0 ≤ b ∧ b ≤ 1000 → Calls Try.prog 79 #[.int .i64 m, .int .i64 a, .int .i64 b] w (Ret w (.int .i64 (pvar m a b)))) := hd fun a b w ha hb => i_pigeonVar m a b w (by omega) ha hb
    generalize hown : pvar (m : Int) i j = own at *
    clear hown
    go_enter Try.func32, Try.ntmps32
    go_wp2_with fail
    refine HPV.out.mono ?_
    rintro e w1 ⟨rfl, rfl⟩
    have X0 : Hid (Ext w (w.alloc (.cells #[.int .i64 own] 3))) := hd (Ext.new _ _)
    have O0 : Hid (OwnI (w.alloc (.cells #[.int .i64 own] 3)) w.heap.size 3 (.slice (some ⟨w.heap.size, 0, none⟩) 1 1) ([own] ++ rowP m i j 0)) := hd ⟨rfl, .inr ⟨w.heap.size, 1, #[.int .i64 own], rfl, Nat.le_refl _, heap_alloc_new _ _, Nat.le_refl _, by unfold maxLen; omega, rfl, rfl⟩⟩
    go_wp2
    go_loopw [11, 10] (fun x pv wr => ∃ k : Nat, k ≤ m ∧ x = .int .i64 ((k : Int) + 1) ∧ OwnI wr w.heap.size 3 pv ([own] ++ rowP m i j k) ∧ Ext w wr) (fun x _ _ => m + 1 - (intOf x).toNat)
    case atStart => exact ⟨0, by omega, rfl, O0.out, X0.out⟩
    case round =>
      obtain ⟨k, hk, rfl, ho, hx⟩ := hrel
      have HX := hd hx
      have HO := hd ho
      clear ho hx
      have hrl := rowP_len m i j k
      have hln : ([own] ++ rowP m i j k).length ≤ 1000 := by simp; omega
      by_cases hlt : k < m
      · have hle1 : (k : Int) + 1 ≤ (m : Int) := by omega
        have HS := hd (rowP_succ m i j k)
        by_cases e : (k : Int) + 1 = j
        · have hb : ((k : Int) + 1 != j) = false := by simp [e]
          rw [if_pos e] at HS
          clear e
          go_wp2
          go_roundw
          case rel => exact ⟨k + 1, by omega, by go_num, by rw [HS.out, List.append_nil]; exact HO.out, HX.out⟩
          case measure => simp [intOf]; omega
        · have hb : ((k : Int) + 1 != j) = true := by simp [e]
          rw [if_neg e] at HS
          clear e
          have hpv := HPB.out i ((k : Int) + 1) hi (by omega)
          go_wp2_with fail
          refine (HPC.out i ((k : Int) + 1) _ (by omega) (by omega)).mono ?_
          rintro e1 w1 ⟨rfl, rfl⟩
          generalize pvar m i ((k : Int) + 1) = pv at *
          have hwn : IntKind.i64.wrap (-pv) = -pv := IntWalk.i64_in _ (by omega)
          go_wp2_with (at_builtin; refine appI wr HO.out rfl _ _ rfl _ (by rfl) (by rfl) (by omega) HX.out.size ?_; intro v' w1 ho1 hg1 _)
          go_roundw
          case rel => exact ⟨k + 1, by omega, by go_num, by rw [HS.out, ← List.append_assoc]; exact ho1, ext_app HX.out hg1 (ownI_ge HO.out)⟩
          case measure => simp [intOf]; omega
      · obtain rfl : k = m := by omega
        have O1 : Hid (OwnI wr w.heap.size 3 _ (([own] ++ rowP k i j k) ++ colP k i j 0)) := hd (by simpa [colP] using HO.out)
        generalize HR0 : [own] ++ rowP k i j k = R0 at *
        clear HR0 HO
        obtain ⟨wo, rfl⟩ : ∃ wo : World, wo = wr := ⟨_, rfl⟩
        go_wp2
        go_loopw [12, 10] (fun x pv wr => ∃ h : Nat, h ≤ k + 1 ∧ x = .int .i64 ((h : Int) + 1) ∧ OwnI wr w.heap.size 3 pv (R0 ++ colP k i j h) ∧ Ext w wr) (fun x _ _ => k + 2 - (intOf x).toNat)
        case atStart => exact ⟨0, by omega, rfl, O1.out, HX.out⟩
        case round =>
          obtain ⟨h, hh, rfl, ho, hx⟩ := hrel
          have HX2 := hd hx
          have HO2 := hd ho
          clear ho hx
          have hcl := colP_len k i j h
          have hln2 : (R0 ++ colP k i j h).length ≤ 1048576 := by rw [List.length_append]; omega
          by_cases hlt2 : h < k + 1
          · have hle2 : (h : Int) + 1 ≤ (k : Int) + 1 := by omega
            have hle3 : h ≤ k := by omega
            have HS2 := hd (colP_succ k i j h)
            by_cases e : (h : Int) + 1 = i
            · have hb : ((h : Int) + 1 != i) = false := by simp [e]
              rw [if_pos e] at HS2
              clear e
              go_wp2
              go_roundw
              case rel => exact ⟨h + 1, by omega, by go_num, by rw [HS2.out, List.append_nil]; exact HO2.out, HX2.out⟩
              case measure => simp [intOf]; omega
            · have hb : ((h : Int) + 1 != i) = true := by simp [e]
              rw [if_neg e] at HS2
              clear e
              have hpv := HPB.out ((h : Int) + 1) j (by omega) hj
              go_wp2_with fail
              refine (HPC.out ((h : Int) + 1) j _ (by omega) (by omega)).mono ?_
              rintro e1 w1 ⟨rfl, rfl⟩
              generalize pvar k ((h : Int) + 1) j = pv at *
              have hwn : IntKind.i64.wrap (-pv) = -pv := IntWalk.i64_in _ (by omega)
              go_wp2_with (at_builtin; refine appI wr HO2.out rfl _ _ rfl _ (by rfl) (by rfl) (by omega) HX2.out.size ?_; intro v' w1 ho1 hg1 _)
              go_roundw
              case rel => exact ⟨h + 1, by omega, by go_num, by rw [HS2.out, ← List.append_assoc]; exact ho1, ext_app HX2.out hg1 (ownI_ge HO2.out)⟩
              case measure => simp [intOf]; omega
          · obtain rfl : h = k + 1 := by omega
            obtain ⟨hp1, hp2, hp3⟩ := HOK.out
            rw [HRAW.out] at hp1
            go_wp2_with fail
            refine (i_mustClause _ (plL k i j (k + 1)) _ _ HO2.out.rd hln2 (hd hp1) (hd hp2) (hd hp3)).mono ?_
            rintro e w2 ⟨u, rfl, hu, hx2⟩
            go_wp2
            go_ret2
            exact RetL2.mk HQ.out.symm (by rw [HV.out]; exact own_rebase hu HX2.out.size) (HX2.out.trans hx2)
end Go.Proofs.Ytkcljofjkmhopaa
