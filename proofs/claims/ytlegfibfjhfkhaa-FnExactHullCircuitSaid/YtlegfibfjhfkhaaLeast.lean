/-
  LeastTrue of both sides. Conditions: sizes up to 2^20.
-/
import Derived.Test.YtlegfibfjhfkhaaHull
namespace Go.Proofs.Ytlegfibfjhfkhaa
open Go.RowKit
/-- Some number below m and below n as bits has a true value. -/
def underB (vs : List Bool) (n m : Nat) : Bool := (List.range m).any fun j => vs.getD j false && belowB j n
def leastB (vs : List Bool) (n : Nat) : Bool := vs.getD n false && !underB vs n n
def leastL (vs : List Bool) (K : Nat) : List Int := ((List.range K).filter (leastB vs)).map fun j : Nat => (j : Int)
theorem leastL_yes {vs : List Bool} {k : Nat} (h : leastB vs k = true) : leastL vs (k + 1) = leastL vs k ++ [(k : Int)] := by simp [leastL, List.range_succ, List.filter_append, h]
theorem leastL_no {vs : List Bool} {k : Nat} (h : leastB vs k = false) : leastL vs (k + 1) = leastL vs k := by simp [leastL, List.range_succ, List.filter_append, h]
theorem leastL_len (vs : List Bool) (k : Nat) : (leastL vs k).length ≤ k := by
  unfold leastL
  rw [List.length_map]
  exact Nat.le_trans (List.length_filter_le _ _) (by simp)
theorem underB_succ (vs : List Bool) (n m : Nat) : underB vs n (m + 1) = (underB vs n m || (vs.getD m false && belowB m n)) := by simp [underB, List.range_succ]
theorem underB_mono {vs : List Bool} {n m k : Nat} (h : underB vs n m = true) (hk : m ≤ k) : underB vs n k = true := by
  unfold underB at *
  rw [List.any_eq_true] at *
  obtain ⟨j, hj, h⟩ := h
  exact ⟨j, List.mem_range.2 (by have := List.mem_range.1 hj; omega), h⟩
theorem below_le {m n : Nat} (h : belowB m n = true) : m ≤ n := by
  unfold belowB at h
  have := beq_iff_eq.1 h
  rw [← this]
  exact Nat.and_le_right
theorem below_trans {a b c : Nat} (h1 : belowB a b = true) (h2 : belowB b c = true) : belowB a c = true := by
  unfold belowB at *
  have e1 := beq_iff_eq.1 h1
  have e2 := beq_iff_eq.1 h2
  refine beq_iff_eq.2 ?_
  calc a &&& c = (a &&& b) &&& c := by rw [e1]
    _ = a &&& (b &&& c) := Nat.and_assoc _ _ _
    _ = a &&& b := by rw [e2]
    _ = a := e1
/-- Under a number with a true value there is a least one. -/
theorem least_under (vs : List Bool) : ∀ n m : Nat, m < n → vs.getD m false = true → ∃ j, j ≤ m ∧ leastB vs j = true ∧ belowB j m = true := by
  intro n
  induction n with
  | zero => intro m hm; omega
  | succ n ih =>
    intro m hm h
    cases hu : underB vs m m
    · exact ⟨m, Nat.le_refl _, by unfold leastB; rw [h, hu]; rfl, by unfold belowB; simp⟩
    · unfold underB at hu
      rw [List.any_eq_true] at hu
      obtain ⟨j, hj, hb⟩ := hu
      rw [Bool.and_eq_true] at hb
      have hjm := List.mem_range.1 hj
      obtain ⟨i, hi, h1, h2⟩ := ih j (by omega) hb.1
      exact ⟨i, by omega, h1, below_trans h2 hb.2⟩
theorem leastL_any (vs : List Bool) (n : Nat) : anyI (fun m => belowB m.toNat n) (leastL vs n) = underB vs n n := by
  rw [Bool.eq_iff_iff, anyI_eq, List.any_eq_true]
  unfold leastL underB
  rw [List.any_eq_true]
  constructor
  · rintro ⟨x, hx, hb⟩
    obtain ⟨j, hj, rfl⟩ := List.mem_map.1 hx
    obtain ⟨h1, h2⟩ := List.mem_filter.1 hj
    unfold leastB at h2
    rw [Bool.and_eq_true] at h2
    rw [Int.toNat_natCast] at hb
    exact ⟨j, h1, by rw [h2.1, hb]; rfl⟩
  · rintro ⟨m, hm, hb⟩
    rw [Bool.and_eq_true] at hb
    obtain ⟨j, hj, h1, h2⟩ := least_under vs (m + 1) m (by omega) hb.1
    have := List.mem_range.1 hm
    exact ⟨(j : Int), List.mem_map.2 ⟨j, List.mem_filter.2 ⟨List.mem_range.2 (by omega), h1⟩, rfl⟩, by rw [Int.toNat_natCast]; exact below_trans h2 hb.2⟩
theorem getD_at {vs : List Bool} {k : Nat} (h : k < vs.length) : vs.getD k false = vs[k] := by simp [List.getD, h]
set_option maxRecDepth 100000 in
set_option maxHeartbeats 3200000 in
theorem s_l30Least (vs : List Bool) (v : Value) (w : World) (h : RdB w v vs) (hl : vs.length ≤ 1048576) : Calls Try.prog 84 #[v] w (RetI w 3 (leastL vs vs.length)) := by
  obtain ⟨A, c, rfl, h1, h2, ha⟩ := h.form
  clear h
  go_enter Try.func84, Try.ntmps84
  go_wp2
  go_loopw [4, 3] (fun i o wr => ∃ k : Nat, k ≤ vs.length ∧ i = .int .i64 k ∧ OwnI wr w.heap.size 3 o (leastL vs k) ∧ Ext w wr) (fun i _ _ => vs.length - (intOf i).toNat)
  case atStart => exact ⟨0, by omega, rfl, ownI_emp' rfl (Nat.le_refl _), Ext.new _ _⟩
  case round =>
    obtain ⟨k, hk, rfl, ho, hx⟩ := hrel
    have HO := hd ho
    have HX := hd hx
    have hll := leastL_len vs k
    clear ho hx
    by_cases hlt : k < vs.length
    · obtain ⟨a, rfl, hc0⟩ := RdB.at_ ha hlt
      have hc := HX.out.cell hc0
      have HK : Hid (vs.getD k false = vs[k]) := hd (getD_at hlt)
      clear hc0
      generalize vs[k] = y at *
      obtain ⟨wo, rfl⟩ : ∃ wo : World, wo = wr := ⟨_, rfl⟩
      go_wp2
      go_loop [6, 5] (fun i l => ∃ m : Nat, m ≤ k ∧ i = .int .i64 m ∧ l = .bool (y && !underB vs k m) ∧ Hid (underB vs k m = true → y = true → underB vs k k = true)) (fun i _ => k - (intOf i).toNat)
      case atStart => exact ⟨0, by omega, rfl, by simp [underB], hd (fun h => by simp [underB] at h)⟩
      case round =>
        clear hc
        obtain ⟨m, hm, rfl, rfl, HM⟩ := hrel
        obtain ⟨b0, hb0⟩ : ∃ b, underB vs k m = b := ⟨_, rfl⟩
        have HB0 := hd hb0
        rw [hb0]
        clear hb0
        by_cases hgo : m < k ∧ (y && !b0) = true
        · obtain ⟨hmk, hyb⟩ := hgo
          obtain ⟨rfl, rfl⟩ : y = true ∧ b0 = false := by cases y <;> cases b0 <;> simp_all
          have hmv : m < vs.length := by omega
          obtain ⟨a', ha', hc1⟩ := RdB.at_ ha hmv
          injection ha' with ha'
          subst ha'
          have hc2 := HX.out.cell hc1
          have hus := underB_succ vs k m
          rw [HB0.out, getD_at hmv] at hus
          have hband := and64 m k (by omega) (by omega)
          have heq : (((m &&& k : Nat) : Int) == (m : Int)) = belowB m k := natcast_beq _ _
          have HMO : Hid (underB vs k (m + 1) = true → true = true → underB vs k k = true) := hd fun h _ => underB_mono h (by omega)
          clear hc1 hyb
          generalize vs[m] = b1 at *
          generalize belowB m k = b2 at *
          have HUS := hd hus
          clear hus
          cases b1 <;> cases b2
          all_goals
            go_wp2
            go_round
            case rel => exact ⟨m + 1, by omega, by go_num, by rw [HUS.out]; rfl, hd fun h _ => HMO.out h rfl⟩
            case measure => simp [intOf]; omega
        · have HLB : Hid (leastB vs k = (y && !b0)) := hd (by
            unfold leastB
            rw [HK.out]
            by_cases hmk : m < k
            · have hf : (y && !b0) = false := by
                cases hz : (y && !b0)
                · rfl
                · exact absurd ⟨hmk, hz⟩ hgo
              rw [hf]
              cases y
              · rfl
              · have hb : b0 = true := by simpa using hf
                rw [HM.out (HB0.out.trans hb) rfl]; rfl
            · obtain rfl : m = k := by omega
              rw [HB0.out])
          by_cases hmk : m < k
          · have hf : (y && !b0) = false := by
              cases hz : (y && !b0)
              · rfl
              · exact absurd ⟨hmk, hz⟩ hgo
            rw [hf] at HLB ⊢
            have HNO := hd (leastL_no HLB.out)
            clear hf hgo
            go_wp2
            go_roundw
            case rel => exact ⟨k + 1, by omega, by go_num, by rw [HNO.out]; exact HO.out, HX.out⟩
            case measure => simp [intOf]; omega
          · generalize (y && !b0) = z at *
            clear hgo
            cases z
            · have HNO := hd (leastL_no HLB.out)
              go_wp2
              go_roundw
              case rel => exact ⟨k + 1, by omega, by go_num, by rw [HNO.out]; exact HO.out, HX.out⟩
              case measure => simp [intOf]; omega
            · have HYE := hd (leastL_yes HLB.out)
              go_wp2_with (at_builtin; refine appI wo HO.out rfl _ _ rfl _ (by rfl) (by rfl) (by omega) HX.out.size ?_; intro v' w1 ho1 hg1 _)
              go_roundw
              case rel => exact ⟨k + 1, by omega, by go_num, by rw [HYE.out]; exact ho1, ext_app HX.out hg1 (ownI_ge HO.out)⟩
              case measure => simp [intOf]; omega
    · obtain rfl : k = vs.length := by omega
      go_wp2
      go_ret
      exact ⟨_, rfl, HO.out, HX.out⟩
theorem enters_leastTrue1 : Enters 147 := fun args w => by kernel_rfl
theorem i_leastTrue1 (m n : Nat) (a : Addr) (w : World) (h : w.cell? a = some (.int .i64 (n : Int))) (hm : m ≤ 1073741824) (hn : n ≤ 1073741824) :
    Calls Try.prog 147 #[.int .i64 (m : Int), .pointer (some a)] w (RetQ w (.bool (belowB m n))) := by
  go_enter Try.func147, Try.ntmps147
  go_wp2_with fail
  refine (i_below m n _ hm hn).mono ?_
  rintro e w1 ⟨rfl, rfl⟩
  go_wp2
  go_ret
  exact RetQ.mk rfl
theorem leastL_mem {vs : List Bool} {k : Nat} : ∀ x ∈ leastL vs k, ∃ j : Nat, x = j ∧ j < k := fun x hx => by
  unfold leastL at hx
  obtain ⟨j, hj, rfl⟩ := List.mem_map.1 hx
  exact ⟨j, rfl, List.mem_range.1 (List.mem_filter.1 hj).1⟩
set_option maxRecDepth 100000 in
set_option maxHeartbeats 3200000 in
theorem i_leastTrue (f : Cnf) (k : Nat) (v : Value) (w : World) (h : RdSp w v f k (bothV f k f.n.toNat)) (hg : goodB f = true) (hk : k ≤ f.cs.length) (h6 : (bothV f k f.n.toNat).length ≤ 6) :
    Calls Try.prog 87 #[v] w (RetI w 3 (leastL (hullB (possV (bothV f k f.n.toNat) (f.cs.take k) (2 ^ f.n.toNat))) (hullB (possV (bothV f k f.n.toNat) (f.cs.take k) (2 ^ f.n.toNat))).length)) := by
  have hC := i_hull f k v w h hg hk h6
  have hlen := possV_len (bothV f k f.n.toNat) (f.cs.take k) (2 ^ f.n.toNat)
  have hlh := length_hullB (possV (bothV f k f.n.toNat) (f.cs.take k) (2 ^ f.n.toNat))
  have hp6 := pow6 h6
  generalize hullB (possV (bothV f k f.n.toNat) (f.cs.take k) (2 ^ f.n.toNat)) = SV at *
  have hsl : SV.length ≤ 64 := by omega
  have HC := hd hC
  clear h hg hk h6 hlen hp6 hC hlh
  go_enter Try.func87, Try.ntmps87
  go_wp2_with fail
  refine HC.out.mono ?_
  rintro e w2 ⟨u2, rfl, hu2, hx2⟩
  have X2 := hd hx2
  obtain ⟨A5, c5, rfl, h1, h2, hb⟩ := hu2.rd.form
  clear hu2 hx2 HC
  go_wp2
  go_loopw [11, 4] (fun i o wr => ∃ k : Nat, k ≤ SV.length ∧ i = .int .i64 k ∧ OwnI wr w2.heap.size 3 o (leastL SV k) ∧ Ext w wr ∧ Ext w2 wr) (fun i _ _ => SV.length - (intOf i).toNat)
  case atStart => exact ⟨0, by omega, rfl, ownI_nil _ _ _, X2.out, Ext.refl _⟩
  case round =>
    obtain ⟨k, hk, rfl, ho, hx, hx2⟩ := hrel
    have HO := hd ho
    have HX := hd hx
    have HX2 := hd hx2
    have hll := leastL_len SV k
    clear ho hx hx2
    by_cases hlt : k < SV.length
    · obtain ⟨a, rfl, hc0⟩ := RdB.at_ hb hlt
      have hc := HX2.out.cell hc0
      have HK : Hid (SV.getD k false = SV[k]) := hd (getD_at hlt)
      have HAN := hd (leastL_any SV k)
      clear hc0
      have HBX := hd (blk_new (w := wr) (.cells #[.int .i64 (k : Int)] 3) rfl)
      have HO1 := hd (OwnI.ext HO.out (Ext.new wr (.cells #[.int .i64 (k : Int)] 3)))
      have HX1 := hd (HX.out.alloc (.cells #[.int .i64 (k : Int)] 3))
      have HX21 := hd (HX2.out.alloc (.cells #[.int .i64 (k : Int)] 3))
      have HQ : Hid (AnsQ 147 #[.pointer (some ⟨wr.heap.size, 0, none⟩)] (fun m => belowB m.toNat k) (leastL SV k) (wr.alloc (.cells #[.int .i64 (k : Int)] 3))) := hd fun x hx m => by
        obtain ⟨j, rfl, hj⟩ := leastL_mem x hx
        show Calls _ _ _ _ (RetQ _ (.bool (belowB ((j : Int)).toNat k)))
        rw [Int.toNat_natCast]
        exact i_leastTrue1 j k _ _ (blk1 HBX.out) (by omega) (by omega)
      generalize hy : SV[k] = y at *
      clear hy
      cases y
      · have HNO := hd (leastL_no (by unfold leastB; rw [HK.out]; rfl : leastB SV k = false))
        go_wp2
        go_roundw
        case rel => exact ⟨k + 1, by omega, by go_num, by rw [HNO.out]; exact HO1.out, HX1.out, HX21.out⟩
        case measure => simp [intOf]; omega
      · obtain ⟨z, hz⟩ : ∃ z, underB SV k k = z := ⟨_, rfl⟩
        have HLB : Hid (leastB SV k = !z) := hd (by unfold leastB; rw [HK.out, hz]; rfl)
        rw [hz] at HAN
        clear hz
        go_wp2_with fail
        refine (rtq (slices_ContainsFunc (leastL SV k) _ _ _ _ _ HO1.out.rd (by omega) enters_leastTrue1 HQ) HAN).mono ?_
        rintro e w3 ⟨rfl, n3, rfl⟩
        have HO3 := hd (OwnI.ext HO1.out (ext_drewN _ n3))
        have HX3 := hd (HX1.out.drewN n3)
        have HX23 := hd (HX21.out.drewN n3)
        have hbx : ((wr.alloc (.cells #[.int .i64 (k : Int)] 3)).drewN n3).cell? ⟨wr.heap.size, 0, none⟩ = some (.int .i64 (k : Int)) := blk1 HBX.out
        clear HO1 HX1 HX21 HQ HBX
        generalize (wr.alloc (.cells #[.int .i64 (k : Int)] 3)).drewN n3 = wq at *
        cases z
        · have HYE := hd (leastL_yes HLB.out)
          go_wp2_with (at_builtin; refine appI wq HO3.out rfl _ _ rfl _ (by rfl) (by rfl) (by omega) HX23.out.size ?_; intro v' w1 ho1 hg1 _)
          go_roundw
          case rel => exact ⟨k + 1, by omega, by go_num, by rw [HYE.out]; exact ho1, ext_app HX3.out hg1 (fun g hg => Nat.le_trans X2.out.size (ownI_ge HO3.out g hg)), ext_app HX23.out hg1 (ownI_ge HO3.out)⟩
          case measure => simp [intOf]; omega
        · have HNO := hd (leastL_no HLB.out)
          go_wp2
          go_roundw
          case rel => exact ⟨k + 1, by omega, by go_num, by rw [HNO.out]; exact HO3.out, HX3.out, HX23.out⟩
          case measure => simp [intOf]; omega
    · obtain rfl : k = SV.length := by omega
      go_wp2
      go_ret
      exact ⟨_, rfl, own_rebase HO.out X2.out.size, HX.out⟩
def leastV (f : Cnf) (k : Int) : List Int := leastL (hullV f k) (hullV f k).length
theorem leastV_bd (f : Cnf) (k : Int) : Bd_IntS (leastV f k) := by
  have := leastL_len (hullV f k) (hullV f k).length
  have := hullV_bd f k
  unfold leastV Bd_IntS
  unfold Bd_BoolS at this
  omega
end Go.Proofs.Ytlegfibfjhfkhaa
