/-
  Chapter 28: the program's left pigeon and the critical bits. Conditions: 1 to 3 holes, bits below 4096.
-/
import Derived.Test.YtpljmlkinjhigaaC28c
import Derived.Test.YtpljmlkinjhigaaApp
namespace Go.Proofs.Ytpljmlkinjhigaa
open Go.RowKit

theorem enters_holesOf1 : Enters 154 := fun args w => by kernel_rfl
set_option maxHeartbeats 800000 in
theorem i_holesOf1 (n b i : Nat) (j : Int) (a1 a2 a3 : Addr) (w : World) (hn : 1 ≤ n ∧ n ≤ 3) (hb : b < 4096) (hi : 1 ≤ i ∧ i ≤ 4) (hj : 1 ≤ j ∧ j ≤ 3)
    (h1 : w.cell? a1 = some (.int .i64 b)) (h2 : w.cell? a2 = some (.int .i64 n)) (h3 : w.cell? a3 = some (.int .i64 i)) :
    Calls Try.prog 154 #[.int .i64 j, .pointer (some a1), .pointer (some a2), .pointer (some a3)] w (RetQ w (.bool (bitN b (pvar n i j - 1).toNat == 0))) := by
  have hm1 : 0 ≤ ((i : Int) - 1) * n := Int.mul_nonneg (by omega) (by omega)
  have hm2 : ((i : Int) - 1) * n ≤ 3 * 3 := Int.mul_le_mul (by omega) (by omega) (by omega) (by omega)
  have hv : 1 ≤ pvar n i j ∧ pvar n i j ≤ 12 := by unfold pvar; omega
  obtain ⟨v, hv0⟩ : ∃ v, (pvar n i j).toNat = v := ⟨_, rfl⟩
  have hpv : pvar n i j = (v : Int) := by omega
  have hv2 : 1 ≤ v ∧ v ≤ 12 := by omega
  have HE : Hid ((pvar n i j - 1).toNat = v - 1) := hd (by omega)
  have HV := hd hpv
  have hsh := shr_and (b := b) (k := v - 1) (by omega)
  have hz : (((bitN b (v - 1) : Nat) : Int) == 0) = (bitN b (v - 1) == 0) := natcast_beq _ 0
  clear hm1 hm2 hv hv0 hpv
  generalize hbt : bitN b (v - 1) = bt at *
  have HBT := hd hbt
  obtain ⟨q, hq⟩ : ∃ q, (bt == 0) = q := ⟨_, rfl⟩
  rw [hq] at hz
  have HQ := hd hq
  clear hbt hq
  go_enter Try.func154, Try.ntmps154
  go_wp2_with fail
  go_quiet ((go_at_call 155; first | exact q_same (rv (i_pigeonVar n i j _ (by omega) (by omega) (by omega)) (hd (congrArg (Value.int .i64) HV.out))) | exact q_same' (rv (i_pigeonVar n i j _ (by omega) (by omega) (by omega)) (hd (congrArg (Value.int .i64) HV.out)))))
  go_wp2
  go_ret
  exact RetQ.mkN (by rw [HE.out, HBT.out, HQ.out]; first | rfl | exact congrArg Value.bool hz)
set_option maxHeartbeats 800000 in
theorem i_holesOf (n b i : Nat) (w : World) (hn : 1 ≤ n ∧ n ≤ 3) (hb : b < 4096) (hi : 1 ≤ i ∧ i ≤ 4) :
    Calls Try.prog 147 #[.int .i64 n, .int .i64 b, .int .i64 i] w (RetI w 3 (holesL n b i)) := by
  have c1 : (((w.alloc (.cells #[.int .i64 n] 3)).alloc (.cells #[.int .i64 b] 3)).alloc (.cells #[.int .i64 i] 3)).cell? ⟨w.heap.size, 0, none⟩ = some (.int .i64 n) := by simp [go_sem, World.cell?_alloc_past]
  have c2 : (((w.alloc (.cells #[.int .i64 n] 3)).alloc (.cells #[.int .i64 b] 3)).alloc (.cells #[.int .i64 i] 3)).cell? ⟨w.heap.size + 1, 0, none⟩ = some (.int .i64 b) := by simp [go_sem, World.cell?_alloc_past]
  have c3 : (((w.alloc (.cells #[.int .i64 n] 3)).alloc (.cells #[.int .i64 b] 3)).alloc (.cells #[.int .i64 i] 3)).cell? ⟨w.heap.size + 2, 0, none⟩ = some (.int .i64 i) := by simp [go_sem]
  have X0 : Hid (Ext w (((w.alloc (.cells #[.int .i64 n] 3)).alloc (.cells #[.int .i64 b] 3)).alloc (.cells #[.int .i64 i] 3))) := hd (((Ext.new _ _).alloc _).alloc _)
  have C1 := hd c1
  have C2 := hd c2
  have C3 := hd c3
  clear c1 c2 c3
  go_enter Try.func147, Try.ntmps147
  go_wp2_with fail
  rw [show w.heap.size + 1 + 1 = w.heap.size + 2 from rfl]
  refine (i_upTo n _ (by omega)).mono ?_
  rintro e w1 ⟨u, rfl, hu, hx1⟩
  have HU := hd hu
  have HX1 := hd hx1
  have HS := hd hx1.size
  clear hu hx1
  go_wp2_with fail
  refine (slices_DeleteFunc (seqI 1 n) u 154 _ (fun j => bitN b (pvar n i j - 1).toNat == 0) w1 _ (w.heap.size + 3) HU.out (by simp; omega) (by simp) enters_holesOf1 (hd fun x hx w' hb' => ?_)).mono ?_
  · have hx' : 1 ≤ x ∧ x ≤ 3 := by
      simp only [seqI, List.mem_map, List.mem_range] at hx
      obtain ⟨q, hq, rfl⟩ := hx
      omega
    exact i_holesOf1 n b i x _ _ _ w' hn hb hi hx' ((hb'.cell (by first | (simp; done) | (simp; omega) | omega)).trans (HX1.out.cell C2.out)) ((hb'.cell (by first | (simp; done) | (simp; omega) | omega)).trans (HX1.out.cell C1.out)) ((hb'.cell (by first | (simp; done) | (simp; omega) | omega)).trans (HX1.out.cell C3.out))
  · rintro e w2 ⟨u2, rfl, hu2, hg2, ho2⟩
    go_wp2
    go_ret
    refine ⟨_, rfl, own_rebase hu2 (by simp; omega), ?_⟩
    exact (X0.out.trans HX1.out).grown hg2 (X0.out.trans HX1.out).size (fun g hg => by have := (own_blocks HU.out g hg).1; simp at this; omega)
set_option maxHeartbeats 3200000 in
theorem holesL_ne (n b i : Nat) : ∀ x ∈ holesL n b i, 1 ≤ x ∧ x ≤ n := by
  intro x hx
  unfold holesL at hx
  have := (List.mem_filter.1 hx).1
  simp only [seqI, List.mem_map, List.mem_range] at this
  obtain ⟨q, hq, rfl⟩ := this
  omega
theorem holesL_len (n b i : Nat) : (holesL n b i).length ≤ n := by
  unfold holesL
  refine Nat.le_trans (List.length_filter_le _ _) (by simp)
set_option maxHeartbeats 3200000 in
theorem i_leftOf (n b : Nat) (w : World) (hn : 1 ≤ n ∧ n ≤ 3) (hb : b < 4096) :
    Calls Try.prog 126 #[.int .i64 n, .int .i64 b] w (RetX w (.int .i64 (leftI n b : Nat))) := by
  go_enter Try.func126, Try.ntmps126
  go_wp2
  go_loopw [7, 5, 6] (fun i l v wr => ∃ (k lf : Nat) (us : List Int), k ≤ n + 1 ∧ lf ≤ 4 ∧ us.length ≤ k ∧ i = .int .i64 ((k : Int) + 1) ∧ l = .int .i64 (lf : Int) ∧ OwnI wr w.heap.size 3 v us ∧ Ext w wr ∧ Hid (leftI n b = leftG n b (n + 1 - k) (k + 1) lf us)) (fun i _ _ _ => n + 2 - (intOf i).toNat)
  case atStart => exact ⟨0, 0, [], by omega, by omega, by simp, rfl, rfl, ownI_nil _ _ _, Ext.refl _, rfl⟩
  case round =>
    obtain ⟨k, lf, us, hk, hlf, hus, rfl, rfl, ho, hx, HS⟩ := hrel
    by_cases hlt : k < n + 1
    · rw [show n + 1 - k = (n + 1 - (k + 1)) + 1 from by omega, leftG] at HS
      have HO := hd ho
      have HX := hd hx
      have HH := hd (i_holesOf n b (k + 1) wr hn hb (by omega))
      simp only [Int.natCast_add, Int.cast_ofNat_Int] at HH
      have HL := hd (holesL_len n b (k + 1))
      clear ho hx
      generalize holesL n b (k + 1) = hs at *
      go_wp2_with fail
      refine HH.out.mono ?_
      rintro e w1 ⟨u, rfl, hu, hx1⟩
      have HO1 := hd (HO.out.ext hx1)
      have HX1 := hd (HX.out.trans hx1)
      have HS1 := HX1.out.size
      clear hx1 HO HX HH
      match hs, HS, hu, HL with
      | [], HS, hu, HL =>
        obtain ⟨A2, c2, rfl, -⟩ := hu.form
        clear hu
        by_cases h0 : lf = 0
        · subst h0
          go_wp2
          go_roundw
          case rel => exact ⟨k + 1, k + 1, us, by omega, by omega, by omega, by go_num, by go_num, HO1.out, HX1.out, hd (by rw [HS.out]; rfl)⟩
          case measure => simp [intOf]; omega
        · have hb0 : (((lf : Nat) : Int) == 0) = false := by simpa using h0
          have H0 := hd h0
          clear h0
          go_wp2
          go_ret
          exact RetX.mk (by rw [HS.out]; simp only [if_neg H0.out]; rfl) HX1.out
      | [h], HS, hu, HL =>
        obtain ⟨A2, c2, rfl, hu2⟩ := hu.form
        obtain ⟨a, rfl, hc⟩ := RdI.at_ (hd hu2.out.rd) (k := 0) (by simp)
        simp only [Addr.add_zero', List.getElem_cons_zero] at hc
        clear hu
        obtain ⟨q, hq⟩ : ∃ q, hasI us h = q := ⟨_, rfl⟩
        have HQ := hd hq
        clear hq
        cases q
        · go_wp2_with (first | (go_at_call 96; refine (rt (slices_Contains us _ _ _ HO1.out.rd (by omega)) HQ).mono ?_; rintro e w2 ⟨rfl, rfl⟩) | (at_builtin; refine appI w1 HO1.out rfl _ _ rfl _ (by rfl) (by rfl) (by omega) HS1 ?_; intro v' w2 ho2 hg2 _))
          go_roundw
          case rel => exact ⟨k + 1, lf, us ++ [h], by omega, by omega, by simp; omega, by go_num, rfl, ho2, ext_app HX1.out hg2 (ownI_ge HO1.out), hd (by rw [HS.out]; simp only [HQ.out]; rfl)⟩
          case measure => simp [intOf]; omega
        · go_wp2_with (go_at_call 96; refine (rt (slices_Contains us _ _ _ HO1.out.rd (by omega)) HQ).mono ?_; rintro e w2 ⟨rfl, rfl⟩)
          go_ret
          exact RetX.mk (by rw [HS.out]; simp only [HQ.out]; rfl) HX1.out
      | h :: h2 :: r, HS, hu, HL =>
        obtain ⟨A2, c2, rfl, -⟩ := hu.form
        clear hu
        have hb1 : ((((h :: h2 :: r).length : Nat) : Int) != 1) = true := by simp; omega
        have hb0 : ((((h :: h2 :: r).length : Nat) : Int) == 0) = false := by simp; omega
        generalize (h :: h2 :: r).length = L at *
        go_wp2
        go_ret
        exact RetX.mk (by rw [HS.out]; rfl) HX1.out
    · go_wp2
      go_ret
      obtain rfl : k = n + 1 := by omega
      exact RetX.mk (by rw [HS.out, Nat.sub_self]; rfl) hx
end Go.Proofs.Ytpljmlkinjhigaa
