/-
  CountCritical of both sides. Condition: sizes up to 2^20.
-/
import Derived.Test.YtpljmlkinjhigaaC2
import Derived.Test.YtpljmlkinjhigaaC28e
import Derived.Test.YtpljmlkinjhigaaHoX
import Derived.Test.YtpljmlkinjhigaaLaw
namespace Go.Proofs.Ytpljmlkinjhigaa
open Go.RowKit
def takesB (n : Int) (c : List Int) : Bool := holesB n && clauseB (n * (n + 1)) c
set_option maxHeartbeats 800000 in
theorem s_l28Takes (n : Int) (xs : List Int) (v : Value) (w : World) (h : RdI w v xs) (hl : xs.length ≤ 1048576) :
    Calls Try.prog 71 #[.int .i64 n, v] w (RetQ w (.bool (takesB n xs))) := by
  have HV := hd h
  clear h
  obtain ⟨b, hb⟩ : ∃ b, holesB n = b := ⟨_, rfl⟩
  have HB := hd hb
  cases b
  · clear hb
    go_enter Try.func71, Try.ntmps71
    go_wp2_with fail
    refine (rt (s_l17Holes _ _) HB).mono ?_
    rintro e w1 ⟨rfl, rfl⟩
    go_wp2
    go_ret
    exact RetQ.mk (by unfold takesB; rw [HB.out]; rfl)
  · have hn := holesB_cases hb
    obtain ⟨m, rfl⟩ := Int.eq_ofNat_of_zero_le (show 0 ≤ n by omega)
    obtain ⟨mm, P, hm, hP, hnn, hm1, hm2, hw, hP1, hP2⟩ := nn_facts (n := m) (by omega)
    have HMM : Hid ((m : Int) * ((m : Int) + 1) = (mm : Int)) := hd hnn
    clear hb hm hP hw
    go_enter Try.func71, Try.ntmps71
    go_wp2_with fail
    refine (rt (s_l17Holes _ _) HB).mono ?_
    rintro e w1 ⟨rfl, rfl⟩
    go_wp2_with fail
    refine (s_l2Clause _ xs v _ HV.out (by omega)).mono ?_
    rintro e w1 ⟨rfl, k, rfl⟩
    go_wp2
    go_ret
    exact RetQ.mkN (by unfold takesB; rw [HB.out, HMM.out]; rfl)
set_option maxHeartbeats 800000 in
theorem i_pigeonClause (n : Int) (xs : List Int) (v : Value) (w : World) (h : RdI w v xs) (hl : xs.length ≤ 1048576) :
    Calls Try.prog 74 #[.int .i64 n, v] w (RetQ w (.bool (takesB n xs))) := by
  have HV := hd h
  clear h
  obtain ⟨b, hb⟩ : ∃ b, holesB n = b := ⟨_, rfl⟩
  have HB := hd hb
  cases b
  · clear hb
    go_enter Try.func74, Try.ntmps74
    go_wp2_with fail
    refine (rt (i_holesOk _ _) HB).mono ?_
    rintro e w1 ⟨rfl, rfl⟩
    go_wp2
    go_ret
    exact RetQ.mk (by unfold takesB; rw [HB.out]; rfl)
  · have hn := holesB_cases hb
    obtain ⟨m, rfl⟩ := Int.eq_ofNat_of_zero_le (show 0 ≤ n by omega)
    obtain ⟨mm, P, hm, hP, hnn, hm1, hm2, hw, hP1, hP2⟩ := nn_facts (n := m) (by omega)
    have HMM : Hid ((m : Int) * ((m : Int) + 1) = (mm : Int)) := hd hnn
    clear hb hm hP hw
    go_enter Try.func74, Try.ntmps74
    go_wp2_with fail
    refine (rt (i_holesOk _ _) HB).mono ?_
    rintro e w1 ⟨rfl, rfl⟩
    go_wp2_with fail
    refine (i_IsClause _ xs v _ HV.out (by omega)).mono ?_
    rintro e w1 ⟨rfl, k, rfl⟩
    go_wp2
    go_ret
    exact RetQ.mkN (by unfold takesB; rw [HB.out, HMM.out]; rfl)
/-- Which of the numbers make the clause false, how many. -/
def falseL (c : List Int) (L : List Int) : List Int := L.filter fun b => !trueB b.toNat c
def cntG (c : List Int) : List Int → Nat → Nat
  | [], s => s
  | b :: r, s => cntG c r (if trueB b.toNat c then s else s + 1)
theorem cntG_eq (c : List Int) : ∀ (L : List Int) (s : Nat), cntG c L s = s + (falseL c L).length
  | [], s => rfl
  | b :: r, s => by
    unfold cntG falseL
    rw [cntG_eq c r]
    cases h : trueB b.toNat c <;> simp [falseL, h] <;> omega
theorem falseL_len (c L : List Int) : (falseL c L).length ≤ L.length := List.length_filter_le _ _
def critNN (n : Int) : List Int := allL n.toNat (2 ^ (n.toNat * (n.toNat + 1)))
def countN (n : Int) (c : List Int) : Int := if takesB n c then ((falseL c (critNN n)).length : Int) else 0
/-- What a good pair of number and clause comes to. -/
theorem takes_inv {n : Int} {c : List Int} (h : takesB n c = true) : (∃ m : Nat, n = m ∧ 1 ≤ m ∧ m ≤ 3) ∧ (∀ x ∈ c, -12 ≤ x ∧ x ≤ 12 ∧ x ≠ 0) := by
  unfold takesB at h
  rw [Bool.and_eq_true] at h
  have hn := holesB_cases h.1
  obtain ⟨a, b, d, _⟩ := clause_inv h.2
  refine ⟨⟨n.toNat, by omega, by omega, by omega⟩, fun x hx => ?_⟩
  have := d x hx
  omega
theorem allL_mem {n k : Nat} {x : Int} (h : x ∈ allL n k) : ∃ b : Nat, x = b ∧ b < k ∧ 0 < critS n b := by
  unfold allL at h
  obtain ⟨b, hb, rfl⟩ := List.mem_map.1 h
  have := List.mem_filter.1 hb
  exact ⟨b, rfl, List.mem_range.1 this.1, by simpa using this.2⟩
theorem critNN_mem {m : Nat} (hm : 1 ≤ m ∧ m ≤ 3) {x : Int} (h : x ∈ critNN (m : Int)) : ∃ b : Nat, x = b ∧ b < 4096 ∧ 0 < critS m b := by
  unfold critNN at h
  rw [Int.toNat_natCast] at h
  obtain ⟨b, h1, h2, h3⟩ := allL_mem h
  obtain ⟨mm, P, e1, e2, _, _, _, _, _, hP2⟩ := nn_facts hm
  rw [← e1, ← e2] at h2
  exact ⟨b, h1, by omega, h3⟩
theorem critNN_len {m : Nat} (hm : 1 ≤ m ∧ m ≤ 3) : (critNN (m : Int)).length ≤ 4096 := by
  unfold critNN
  rw [Int.toNat_natCast]
  have h := allL_len m (2 ^ (m * (m + 1)))
  obtain ⟨mm, P, e1, e2, _, _, _, _, _, hP2⟩ := nn_facts hm
  rw [← e1, ← e2] at h ⊢
  omega
set_option maxRecDepth 100000 in
set_option maxHeartbeats 1600000 in
theorem s_CountCritical (n : Int) (c : List Int) (v : Value) (w : World) (_ : I64 n) (h : RdI w v c) (b : Bd_IntS c) (_ : I64_IntS c) :
    Calls Try.prog 28 #[.int .i64 n, v] w (RetX w (.tuple #[.int .i64 (countN n c), .bool (takesB n c)])) := by
  have HV := hd h
  have HB := hd b
  clear h b
  obtain ⟨q, hq⟩ : ∃ q, takesB n c = q := ⟨_, rfl⟩
  have HQ := hd hq
  have HI := hd (fun e => takes_inv (hq.trans e) : q = true → _)
  clear hq
  go_enter Try.func28, Try.ntmps28
  go_wp2_with fail
  refine (s_l28Takes n c v _ HV.out HB.out).mono ?_
  rw [HQ.out]
  rintro e w1 ⟨rfl, k, rfl⟩
  cases q
  · go_wp2
    go_ret2
    exact RetX.mk (by unfold countN; rw [HQ.out]; rfl) (ext_drewN _ _)
  · obtain ⟨⟨m, rfl, hm⟩, hlit⟩ := HI.out (by simp)
    have HLIT := hd hlit
    clear hlit HI
    go_wp2_with fail
    refine (s_l28All m _ hm).mono ?_
    rintro e w1 ⟨u, rfl, hu, hx1⟩
    have HL : Hid (critNN (m : Int) = allL m (2 ^ (m * (m + 1)))) := hd (by unfold critNN; rw [Int.toNat_natCast])
    rw [← HL.out] at hu
    have HF : Hid (countN (m : Int) c = (cntG c (critNN (m : Int)) 0 : Nat)) := hd (by unfold countN; rw [HQ.out, if_pos rfl, cntG_eq]; simp)
    have X1 := hd ((ext_drewN w k).trans hx1)
    have hlen := critNN_len hm
    have HME := hd (fun x hx => critNN_mem hm (x := x) hx)
    obtain ⟨A3, c3, rfl, h31, h32, HU⟩ := hu.rd.form
    clear hu hx1
    generalize critNN (m : Int) = L at *
    go_wp2
    go_loopw [8, 7] (fun i sv wr => ∃ (k s : Nat), k ≤ L.length ∧ i = .int .i64 k ∧ sv = .int .i64 s ∧ s ≤ k ∧ Hid (cntG c L 0 = cntG c (L.drop k) s) ∧ Ext w1 wr) (fun i _ _ => L.length - (intOf i).toNat)
    case atStart => exact ⟨0, 0, by omega, rfl, rfl, by omega, hd rfl, Ext.refl _⟩
    case round =>
      obtain ⟨k, s, hk, rfl, rfl, hs1, HS, hx⟩ := hrel
      have HX := hd hx
      clear hx
      by_cases hlt : k < L.length
      · obtain ⟨a, rfl, hc0⟩ := RdI.at_ HU hlt
        have hc := HX.out.cell hc0
        rw [drop_cons hlt] at HS
        obtain ⟨j, hj, hjn, -⟩ := HME.out _ (List.getElem_mem hlt)
        rw [hj] at hc HS
        clear hj hc0
        obtain ⟨q, hq⟩ : ∃ q, trueB j c = q := ⟨_, rfl⟩
        have HT := hd hq
        have HT2 : Hid (trueB ((j : Int)).toNat c = q) := hd (by rw [Int.toNat_natCast]; exact hq)
        clear hq
        go_wp2_with fail
        refine (s_l5True j c v _ (HV.out.ext (X1.out.trans HX.out)) (by have := HB.out; unfold Bd_IntS at this; omega) HLIT (by omega)).mono ?_
        rw [HT.out]
        rintro e w2 ⟨rfl, k2, rfl⟩
        cases q
        · go_wp2
          go_roundw
          case rel => exact ⟨k + 1, s + 1, by omega, by go_num, by go_num, by omega, hd (by rw [HS.out, cntG, HT2.out]; rfl), HX.out.drewN _⟩
          case measure => simp [intOf]; omega
        · go_wp2
          go_roundw
          case rel => exact ⟨k + 1, s, by omega, by go_num, rfl, by omega, hd (by rw [HS.out, cntG, HT2.out]; rfl), HX.out.drewN _⟩
          case measure => simp [intOf]; omega
      · go_wp2
        go_ret2
        exact RetX.mk (by rw [HF.out, HQ.out, HS.out, List.drop_eq_nil_of_le (by omega)]; rfl) (X1.out.trans HX.out)
theorem enters_falseCritical1 : Enters 120 := fun args w => by kernel_rfl
theorem i_falseCritical1 (c : List Int) (A : Option Addr) (cap : Nat) (a : Addr) (b : Nat) (w : World) (hc : w.cell? a = some (.slice A c.length cap)) (hr : RdI w (.slice A c.length cap) c) (hl : c.length ≤ 1048576) (hlit : Hid (∀ x ∈ c, -12 ≤ x ∧ x ≤ 12 ∧ x ≠ 0)) (hb : b < 4096) :
    Calls Try.prog 120 #[.int .i64 b, .pointer (some a)] w (RetX w (.bool (trueB b c))) := by
  have HR := hd hr
  clear hr
  go_enter Try.func120, Try.ntmps120
  go_wp2_with fail
  refine (i_holds b c _ _ HR.out (by omega) hlit (by omega)).mono ?_
  rintro e w1 ⟨rfl, hx⟩
  go_wp2
  go_ret
  exact RetX.mk rfl hx
theorem rdI_below {w w1 w' : World} {v : Value} {xs : List Int} {B : Nat} (h : RdI w v xs) (hx : Ext w w1) (hb : Below B w1 w') (hB : w.heap.size ≤ B) : RdI w' v xs :=
  Rd.keep h fun p _ hu => (hb.cell (Nat.lt_of_lt_of_le (World.block_lt_of_cell? w p hu) hB)).trans (hx.cell hu)
set_option maxRecDepth 100000 in
set_option maxHeartbeats 800000 in
theorem i_falseCritical (m : Nat) (c : List Int) (v : Value) (w : World) (hm : 1 ≤ m ∧ m ≤ 3) (h : RdI w v c) (hl : c.length ≤ 1048576) (hlit : Hid (∀ x ∈ c, -12 ≤ x ∧ x ≤ 12 ∧ x ≠ 0)) :
    Calls Try.prog 75 #[.int .i64 m, v] w (RetI w 3 (falseL c (critNN (m : Int)))) := by
  obtain ⟨A, cap, rfl, h1, h2, ha⟩ := h.form
  clear h
  have HL : Hid (critNN (m : Int) = allL m (2 ^ (m * (m + 1)))) := hd (by unfold critNN; rw [Int.toNat_natCast])
  have hlen := critNN_len hm
  have HME := hd (fun x hx => critNN_mem hm (x := x) hx)
  go_enter Try.func75, Try.ntmps75
  go_wp2_with fail
  refine (i_critical m _ hm).mono ?_
  rintro e w1 ⟨u, rfl, hu, hx1⟩
  rw [← HL.out] at hu
  have O1 := hd hu
  have X1 := hd hx1
  have hs : w.heap.size < w1.heap.size := Nat.lt_of_lt_of_le (by simp) hx1.size
  have HP : Hid (∀ x ∈ critNN (m : Int), ∀ (w' : World), Below (w.heap.size + 1) w1 w' → Calls Try.prog 120 (#[.int .i64 x] ++ #[.pointer (some ⟨w.heap.size, 0, none⟩)]) w' (RetX w' (.bool ((fun x : Int => trueB x.toNat c) x)))) := hd fun x hx w' hb => by
    obtain ⟨b, rfl, hb4, -⟩ := HME.out x hx
    have hcell : w1.cell? ⟨w.heap.size, 0, none⟩ = some (.slice A c.length cap) := X1.out.cell (by simp [go_sem])
    exact i_falseCritical1 c A cap ⟨w.heap.size, 0, none⟩ b w' ((hb.cell (by simp)).trans hcell) (rdI_below ha.out (Ext.trans (Ext.new _ _) X1.out) hb (by omega)) hl hlit hb4
  clear hu hx1
  go_wp2_with fail
  refine (slices_DeleteFuncX (critNN (m : Int)) u 120 #[.pointer (some ⟨w.heap.size, 0, none⟩)] (fun x : Int => trueB x.toNat c) w1 _ (w.heap.size + 1) O1.out (by omega) (by simp) (by omega) enters_falseCritical1 HP).mono ?_
  rintro e w2 ⟨u2, rfl, hu2, hg2, -⟩
  go_wp2
  go_ret
  exact ⟨_, rfl, own_rebase hu2 (by simp), (Ext.trans (Ext.new _ _) X1.out).grown hg2 (by omega) (fun g hg => by have := ownI_ge O1.out g hg; simp at this; omega)⟩
set_option maxRecDepth 100000 in
set_option maxHeartbeats 800000 in
theorem i_CountCritical (n : Int) (c : List Int) (v : Value) (w : World) (_ : I64 n) (h : RdI w v c) (b : Bd_IntS c) (_ : I64_IntS c) :
    Calls Try.prog 30 #[.int .i64 n, v] w (RetX w (.tuple #[.int .i64 (countN n c), .bool (takesB n c)])) := by
  have HV := hd h
  have HB := hd b
  clear h b
  obtain ⟨q, hq⟩ : ∃ q, takesB n c = q := ⟨_, rfl⟩
  have HQ := hd hq
  have HI := hd (fun e => takes_inv (hq.trans e) : q = true → _)
  clear hq
  go_enter Try.func30, Try.ntmps30
  go_wp2_with fail
  refine (i_pigeonClause n c v _ HV.out HB.out).mono ?_
  rw [HQ.out]
  rintro e w1 ⟨rfl, k, rfl⟩
  cases q
  · go_wp2
    go_ret2
    exact RetX.mk (by unfold countN; rw [HQ.out]; rfl) (ext_drewN _ _)
  · obtain ⟨⟨m, rfl, hm⟩, hlit⟩ := HI.out (by simp)
    have HLIT := hd hlit
    clear hlit HI
    go_wp2_with fail
    refine (i_falseCritical m c v _ hm (HV.out.ext (ext_drewN _ _)) HB.out HLIT).mono ?_
    rintro e w1 ⟨u, rfl, hu, hx1⟩
    obtain ⟨A3, c3, rfl, -⟩ := hu.rd.form
    go_wp2
    go_ret2
    exact RetX.mk (by unfold countN; rw [HQ.out]; rfl) ((ext_drewN w k).trans hx1)
end Go.Proofs.Ytpljmlkinjhigaa
