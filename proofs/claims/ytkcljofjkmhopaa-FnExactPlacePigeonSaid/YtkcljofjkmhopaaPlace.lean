/-
  PlacePigeon: the rows of the pigeons in order (the spec's side), and the impl's list ahead of its sorting. Condition: none beyond the argument's range.
-/
import Derived.Test.YtkcljofjkmhopaaPosit
namespace Go.Proofs.Ytkcljofjkmhopaa
open Go.RowKit
def plCell (m : Nat) (i j : Int) (k h : Nat) : List Int :=
  if (k : Int) + 1 = i ∧ (h : Int) + 1 = j then [pvar m ((k : Int) + 1) ((h : Int) + 1)] else if (k : Int) + 1 = i ∨ (h : Int) + 1 = j then [-(pvar m ((k : Int) + 1) ((h : Int) + 1))] else []
def plRow (m : Nat) (i j : Int) (k n : Nat) : List Int := (List.range n).flatMap (plCell m i j k)
def plL (m : Nat) (i j : Int) (n : Nat) : List Int := (List.range n).flatMap fun k => plRow m i j k m
theorem plRow_succ (m : Nat) (i j : Int) (k n : Nat) : plRow m i j k (n + 1) = plRow m i j k n ++ plCell m i j k n := by simp [plRow, List.range_succ]
theorem plL_succ (m : Nat) (i j : Int) (n : Nat) : plL m i j (n + 1) = plL m i j n ++ plRow m i j n m := by simp [plL, List.range_succ]
theorem plCell_len (m : Nat) (i j : Int) (k h : Nat) : (plCell m i j k h).length ≤ 1 := by
  unfold plCell
  split
  · simp
  · split <;> simp
theorem plRow_len (m : Nat) (i j : Int) (k n : Nat) : (plRow m i j k n).length ≤ n := by
  induction n with
  | zero => simp [plRow]
  | succ n ih => rw [plRow_succ, List.length_append]; have := plCell_len m i j k n; omega
theorem plL_len (m : Nat) (i j : Int) (n : Nat) : (plL m i j n).length ≤ n * m := by
  induction n with
  | zero => simp [plL]
  | succ n ih => rw [plL_succ, List.length_append, Nat.succ_mul]; have := plRow_len m i j n m; omega
def placeB (n i j : Int) : Bool := holesB n && (inB i 1 (n + 1) && inB j 1 n)
def placeV (n i j : Int) : List Int := if placeB n i j then plL n.toNat i j (n.toNat + 1) else []
theorem place_inv {n i j : Int} (h : placeB n i j = true) : (∃ m : Nat, n = m ∧ 1 ≤ m ∧ m ≤ 3) ∧ (1 ≤ i ∧ i ≤ n + 1) ∧ (1 ≤ j ∧ j ≤ n) := by
  unfold placeB at h
  rw [Bool.and_eq_true, Bool.and_eq_true] at h
  have h1 := inB_iff.1 (show inB n 1 3 = true from h.1)
  exact ⟨⟨n.toNat, by omega, by omega, by omega⟩, inB_iff.1 h.2.1, inB_iff.1 h.2.2⟩
theorem placeV_bd (n i j : Int) : Bd_IntS (placeV n i j) := by
  unfold placeV Bd_IntS
  split
  · rename_i h
    obtain ⟨⟨m, rfl, h1, h2⟩, _⟩ := place_inv h
    rw [Int.toNat_natCast]
    have := plL_len m i j (m + 1)
    have : (m + 1) * m ≤ 4 * 3 := Nat.mul_le_mul (by omega) (by omega)
    omega
  · simp
set_option maxRecDepth 100000 in
set_option maxHeartbeats 3200000 in
theorem s_PlacePigeon (n i j : Int) (w : World) (_ : I64 n) (_ : I64 i) (_ : I64 j) :
    Calls Try.prog 31 #[.int .i64 n, .int .i64 i, .int .i64 j] w (RetL2 w (placeV n i j) (placeB n i j)) := by
  have X0 : Hid (Ext w (w.alloc (.cells #[] 3))) := hd (Ext.new _ _)
  have O0 : Hid (OwnI (w.alloc (.cells #[] 3)) w.heap.size 3 (.slice (some ⟨w.heap.size, 0, none⟩) 0 0) []) := hd (ownI_emp' rfl (Nat.le_refl _))
  have HPI := hd (@place_inv n i j)
  obtain ⟨q1, hq1⟩ : ∃ q, holesB n = q := ⟨_, rfl⟩
  have HQ1 := hd hq1
  cases q1
  · have HP : Hid (placeB n i j = false) := hd (by unfold placeB; rw [hq1]; rfl)
    clear hq1
    go_enter Try.func31, Try.ntmps31
    go_wp2_with fail
    refine (rt (s_l17Holes n _) HQ1).mono ?_
    rintro e w1 ⟨rfl, rfl⟩
    go_wp2
    go_ret2
    exact RetL2.mk HP.out.symm (by unfold placeV; rw [HP.out]; exact O0.out) X0.out
  · have h13 := inB_iff.1 (show inB n 1 3 = true from hq1)
    obtain ⟨q2, hq2⟩ : ∃ q, inB i 1 (n + 1) = q := ⟨_, rfl⟩
    have HQ2 := hd hq2
    cases q2
    · have HP : Hid (placeB n i j = false) := hd (by unfold placeB; rw [hq1, hq2]; rfl)
      clear hq1 hq2
      go_enter Try.func31, Try.ntmps31
      go_wp2_with fail
      refine (rt (s_l17Holes n _) HQ1).mono ?_
      rintro e w1 ⟨rfl, rfl⟩
      go_wp2_with fail
      refine (rt (s_l1In i 1 (n + 1) _) HQ2).mono ?_
      rintro e w1 ⟨rfl, rfl⟩
      go_wp2
      go_ret2
      exact RetL2.mk HP.out.symm (by unfold placeV; rw [HP.out]; exact O0.out) X0.out
    · obtain ⟨q3, hq3⟩ : ∃ q, inB j 1 n = q := ⟨_, rfl⟩
      have HQ3 := hd hq3
      cases q3
      · have HP : Hid (placeB n i j = false) := hd (by unfold placeB; rw [hq1, hq2, hq3]; rfl)
        clear hq1 hq2 hq3
        go_enter Try.func31, Try.ntmps31
        go_wp2_with fail
        refine (rt (s_l17Holes n _) HQ1).mono ?_
        rintro e w1 ⟨rfl, rfl⟩
        go_wp2_with fail
        refine (rt (s_l1In i 1 (n + 1) _) HQ2).mono ?_
        rintro e w1 ⟨rfl, rfl⟩
        go_wp2_with fail
        refine (rt (s_l1In j 1 n _) HQ3).mono ?_
        rintro e w1 ⟨rfl, rfl⟩
        go_wp2
        go_ret2
        exact RetL2.mk HP.out.symm (by unfold placeV; rw [HP.out]; exact O0.out) X0.out
      · have hP : placeB n i j = true := by unfold placeB; rw [hq1, hq2, hq3]; rfl
        obtain ⟨⟨m, rfl, hm1, hm2⟩, hi, hj⟩ := place_inv hP
        have HP := hd hP
        have HV : Hid (placeV (m : Int) i j = plL m i j (m + 1)) := hd (by unfold placeV; rw [hP, if_pos rfl, Int.toNat_natCast])
        clear hq1 hq2 hq3 hP h13
        go_enter Try.func31, Try.ntmps31
        go_wp2_with fail
        refine (rt (s_l17Holes m _) HQ1).mono ?_
        rintro e w1 ⟨rfl, rfl⟩
        go_wp2_with fail
        refine (rt (s_l1In i 1 (m + 1) _) HQ2).mono ?_
        rintro e w1 ⟨rfl, rfl⟩
        go_wp2_with fail
        refine (rt (s_l1In j 1 m _) HQ3).mono ?_
        rintro e w1 ⟨rfl, rfl⟩
        go_wp2
        go_loopw [9, 8] (fun x pv wr => ∃ k : Nat, k ≤ m + 1 ∧ x = .int .i64 ((k : Int) + 1) ∧ OwnI wr w.heap.size 3 pv (plL m i j k) ∧ Ext w wr) (fun x _ _ => m + 2 - (intOf x).toNat)
        case atStart => exact ⟨0, by omega, rfl, O0.out, X0.out⟩
        case round =>
          obtain ⟨k, hk, rfl, ho, hx⟩ := hrel
          have HX := hd hx
          have HO := hd ho
          clear ho hx
          have hpl := plL_len m i j k
          have hkm : k * m ≤ 4 * 3 := Nat.mul_le_mul (by omega) hm2
          by_cases hlt : k < m + 1
          · have hle1 : (k : Int) + 1 ≤ (m : Int) + 1 := by omega
            have hle2 : k ≤ m := by omega
            have HS : Hid (plL m i j (k + 1) = plL m i j k ++ plRow m i j k m) := hd (plL_succ m i j k)
            obtain ⟨wo, rfl⟩ : ∃ wo : World, wo = wr := ⟨_, rfl⟩
            go_wp2
            go_loopw [10, 8] (fun x pv wr => ∃ h : Nat, h ≤ m ∧ x = .int .i64 ((h : Int) + 1) ∧ OwnI wr w.heap.size 3 pv (plL m i j k ++ plRow m i j k h) ∧ Ext w wr) (fun x _ _ => m + 1 - (intOf x).toNat)
            case atStart => exact ⟨0, by omega, rfl, by simpa [plRow] using HO.out, HX.out⟩
            case round =>
              obtain ⟨h, hh, rfl, ho, hx⟩ := hrel
              have HX2 := hd hx
              have HO2 := hd ho
              clear ho hx
              have hpr := plRow_len m i j k h
              have hln : (plL m i j k ++ plRow m i j k h).length ≤ 1048576 := by rw [List.length_append]; omega
              by_cases hlt2 : h < m
              · have HRS : Hid (plRow m i j k (h + 1) = plRow m i j k h ++ plCell m i j k h) := hd (plRow_succ m i j k h)
                obtain ⟨b1, hb1⟩ : ∃ b, ((k : Int) + 1 == i) = b := ⟨_, rfl⟩
                obtain ⟨b2, hb2⟩ : ∃ b, ((h : Int) + 1 == j) = b := ⟨_, rfl⟩
                have HC : Hid (plCell m i j k h = if b1 && b2 then [pvar m ((k : Int) + 1) ((h : Int) + 1)] else if b1 || b2 then [-(pvar m ((k : Int) + 1) ((h : Int) + 1))] else []) := hd (by unfold plCell; rw [← hb1, ← hb2]; simp)
                have hpv1 : 1 ≤ pvar m ((k : Int) + 1) ((h : Int) + 1) ∧ pvar m ((k : Int) + 1) ((h : Int) + 1) ≤ 12 := by
                  unfold pvar
                  have hm3 : m = 1 ∨ m = 2 ∨ m = 3 := by omega
                  rcases hm3 with rfl | rfl | rfl <;> omega
                have hpc := s_l17Var m ((k : Int) + 1) ((h : Int) + 1)
                have HPC := hd hpc
                clear hpc
                generalize pvar m ((k : Int) + 1) ((h : Int) + 1) = pv at *
                have hwn : IntKind.i64.wrap (-pv) = -pv := IntWalk.i64_in _ (by omega)
                cases b1 <;> cases b2
                · go_wp2
                  go_roundw
                  case rel => exact ⟨h + 1, by omega, by go_num, by rw [HRS.out, HC.out]; simpa using HO2.out, HX2.out⟩
                  case measure => simp [intOf]; omega
                · go_wp2_with fail
                  refine (HPC.out _ (by omega) (by omega) (by omega)).mono ?_
                  rintro e1 w1 ⟨rfl, rfl⟩
                  go_wp2_with (at_builtin; refine appI wr HO2.out rfl _ _ rfl _ (by rfl) (by rfl) (by omega) HX2.out.size ?_; intro v' w1 ho1 hg1 _)
                  go_roundw
                  case rel => exact ⟨h + 1, by omega, by go_num, by rw [HRS.out, HC.out, ← List.append_assoc]; exact ho1, ext_app HX2.out hg1 (ownI_ge HO2.out)⟩
                  case measure => simp [intOf]; omega
                · go_wp2_with fail
                  refine (HPC.out _ (by omega) (by omega) (by omega)).mono ?_
                  rintro e1 w1 ⟨rfl, rfl⟩
                  go_wp2_with (at_builtin; refine appI wr HO2.out rfl _ _ rfl _ (by rfl) (by rfl) (by omega) HX2.out.size ?_; intro v' w1 ho1 hg1 _)
                  go_roundw
                  case rel => exact ⟨h + 1, by omega, by go_num, by rw [HRS.out, HC.out, ← List.append_assoc]; exact ho1, ext_app HX2.out hg1 (ownI_ge HO2.out)⟩
                  case measure => simp [intOf]; omega
                · go_wp2_with fail
                  refine (HPC.out _ (by omega) (by omega) (by omega)).mono ?_
                  rintro e1 w1 ⟨rfl, rfl⟩
                  go_wp2_with (at_builtin; refine appI wr HO2.out rfl _ _ rfl _ (by rfl) (by rfl) (by omega) HX2.out.size ?_; intro v' w1 ho1 hg1 _)
                  go_roundw
                  case rel => exact ⟨h + 1, by omega, by go_num, by rw [HRS.out, HC.out, ← List.append_assoc]; exact ho1, ext_app HX2.out hg1 (ownI_ge HO2.out)⟩
                  case measure => simp [intOf]; omega
              · obtain rfl : h = m := by omega
                go_wp2
                go_roundw
                case rel => exact ⟨k + 1, by omega, by go_num, by rw [HS.out]; exact HO2.out, HX2.out⟩
                case measure => simp [intOf]; omega
          · obtain rfl : k = m + 1 := by omega
            go_wp2
            go_ret2
            exact RetL2.mk HP.out.symm (by rw [HV.out]; exact HO.out) HX.out
/-- The impl's literals, ahead of the sorting: the others of the pigeon's row. -/
def rowP (m : Nat) (i j : Int) (n : Nat) : List Int := (List.range n).flatMap fun h : Nat => if (h : Int) + 1 = j then [] else [-(pvar m i ((h : Int) + 1))]
def colP (m : Nat) (i j : Int) (n : Nat) : List Int := (List.range n).flatMap fun k : Nat => if (k : Int) + 1 = i then [] else [-(pvar m ((k : Int) + 1) j)]
def rawP (m : Nat) (i j : Int) : List Int := [pvar m i j] ++ rowP m i j m ++ colP m i j (m + 1)
theorem place_all : ∀ m ∈ [1, 2, 3], ∀ a ∈ List.range 4, ∀ b ∈ List.range 3, a ≤ m → b < m →
    (plL m ((a : Int) + 1) ((b : Int) + 1) (m + 1)).isPerm (rawP m ((a : Int) + 1) ((b : Int) + 1)) = true ∧ (plL m ((a : Int) + 1) ((b : Int) + 1) (m + 1)).Pairwise (fun x y => absI x < absI y) ∧ (∀ x ∈ plL m ((a : Int) + 1) ((b : Int) + 1) (m + 1), -12 ≤ x ∧ x ≤ 12) := by decide
end Go.Proofs.Ytkcljofjkmhopaa
