/-
  The clauses of a parity, the program's side: signings and xorClauses. Conditions: at most 10 numbers, within 1000.
-/
import Derived.Test.YtgkifandgacncaaParU
namespace Go.Proofs.Ytgkifandgacncaa
open Go.RowKit
theorem flat_snocZ {zs : List Row} {j : Nat} (h : j < zs.length) (f : List Int → List (List Int)) : ((zs.take (j + 1)).map Prod.snd).flatMap f = ((zs.take j).map Prod.snd).flatMap f ++ f zs[j].2 := by
  rw [List.take_succ_eq_append_getElem h, List.map_append, List.flatMap_append]
  simp
theorem negN_take {xs : List Int} {k : Nat} (h : k < xs.length) : negN (xs.take (k + 1)) = negN (xs.take k) + (if xs[k] < 0 then 1 else 0) := by
  rw [List.take_succ_eq_append_getElem h, negN_snoc]
set_option maxRecDepth 100000 in
set_option maxHeartbeats 6400000 in
theorem i_signings (xs : List Int) (v : Value) (w : World) (h : RdI w v xs) (hl : xs.length ≤ 10) (hb : Hid (∀ x ∈ xs, -1000 ≤ x ∧ x ≤ 1000)) : Calls Try.prog 54 #[v] w (RetRows w (sgn xs)) := by
  obtain ⟨A, c, rfl, h1, h2, ha⟩ := h.form
  clear h
  have HLEN : Hid (∀ k, k ≤ xs.length → (sgn (xs.take k)).length ≤ 1024) := hd fun k hk => by
    rw [sgn_length, List.length_take]
    exact Nat.le_trans (Nat.pow_le_pow_right (by decide) (show min k xs.length ≤ 10 by omega)) (by decide)
  have HROW : Hid (∀ k, k ≤ xs.length → ∀ c ∈ sgn (xs.take k), c.length ≤ 10) := hd fun k hk c hc => by
    rw [sgn_row c hc, List.length_take]; omega
  have HSS := hd (fun k (hk : k < xs.length) => sgn_succ hk)
  have HFIN : Hid (sgn (xs.take xs.length) = sgn xs) := hd (by rw [List.take_length])
  have O0 : Hid (OutZ (w.alloc (.cells #[.slice none 0 0] 23)) w.heap.size (.slice (some ⟨w.heap.size, 0, none⟩) 1 1) [(.slice none 0 0, [])]) := hd (own_lit w w.heap.size 23 1 #[.slice none 0 0] 1 (Nat.le_refl _) (by unfold maxLen; omega) rfl)
  have Z0 : Hid (RowsZ (w.alloc (.cells #[.slice none 0 0] 23)) w.heap.size (w.alloc (.cells #[.slice none 0 0] 23)).heap.size [(.slice none 0 0, [])]) := hd (RowsZ.one (ownI_nil _ _ _))
  go_enter Try.func54, Try.ntmps54
  go_wp2
  go_loopw [3, 12] (fun ov i wr => ∃ (k : Nat) (zs : List Row), k ≤ xs.length ∧ i = .int .i64 (k : Int) ∧ OutZ wr w.heap.size ov zs ∧ RowsZ wr w.heap.size wr.heap.size zs ∧ zs.map Prod.snd = sgn (xs.take k) ∧ Ext w wr) (fun _ i _ => xs.length - (intOf i).toNat)
  case atStart => exact ⟨0, _, by omega, rfl, O0.out, Z0.out, rfl, Ext.new _ _⟩
  case round =>
    clear O0 Z0
    obtain ⟨k, zs, hk, rfl, hO, hZ, hS, hx⟩ := hrel
    have HZ := hd hZ
    have HX := hd hx
    have HS := hd hS
    have hzl : zs.length ≤ 1024 := by
      have e : zs.length = (sgn (xs.take k)).length := by rw [← hS, List.length_map]
      have := HLEN.out k hk
      omega
    by_cases hlt : k < xs.length
    · obtain ⟨A6, c6, rfl, -⟩ := hO.form
      have HO := hd hO
      clear hO hZ hS hx
      obtain ⟨a, rfl, hc⟩ := RdI.at_ ha hlt
      replace hc := HX.out.cell hc
      have hbx := hb.out _ (List.getElem_mem hlt)
      have HSX := hd (HSS.out k hlt)
      have HRW : Hid (∀ z ∈ zs, z.2.length ≤ 10) := hd fun z hz => HROW.out k hk z.2 (by rw [← HS.out]; exact List.mem_map_of_mem hz)
      have HFS := hd (fun j (hj : j < zs.length) => flat_snocZ hj (two xs[k]))
      have HFE : Hid (((zs.take zs.length).map Prod.snd).flatMap (two xs[k]) = sgn (xs.take (k + 1))) := hd (by rw [List.take_length, HSX.out, HS.out])
      have HTW : Hid (∀ c, two xs[k] c = [c ++ [xs[k]], c ++ [-xs[k]]]) := hd fun _ => rfl
      generalize xs[k] = x at *
      obtain ⟨wo, rfl⟩ : ∃ wo : World, wo = wr := ⟨_, rfl⟩
      have hs0 := HX.out.size
      go_wp2
      go_loopw [6, 18] (fun nv i wr => ∃ (j : Nat) (ys : List Row), j ≤ zs.length ∧ i = .int .i64 (j : Int) ∧ OutZ wr wo.heap.size nv ys ∧ RowsZ wr wo.heap.size wr.heap.size ys ∧ ys.map Prod.snd = ((zs.take j).map Prod.snd).flatMap (two x) ∧ ys.length = 2 * j ∧ Ext wo wr) (fun _ i _ => zs.length - (intOf i).toNat)
      case atStart => exact ⟨0, [], by omega, rfl, own_nil _ _ _ _, RowsZ.nil _ _ _, rfl, rfl, Ext.refl _⟩
      case round =>
        clear hc
        obtain ⟨j, ys, hj, rfl, hO2, hZ2, hS2, hyl, hx2⟩ := hrel
        have HO2 := hd hO2
        have HZ2 := hd hZ2
        have HS2 := hd hS2
        have HX2 := hd hx2
        have hyn : ys.length + 2 ≤ 2147483648 := by omega
        have HYL := hd hyl
        clear hO2 hZ2 hS2 hx2 hyl
        by_cases hlt2 : j < zs.length
        · obtain ⟨a6, rfl, hc6⟩ := OutZ.at_ HO hlt2
          replace hc6 := HX2.out.cell hc6
          have hr6 := (HZ.out.1 _ (List.getElem_mem hlt2)).1.rd.ext HX2.out
          have hrw := HRW.out _ (List.getElem_mem hlt2)
          have HF6 := hd (HFS.out j hlt2)
          rw [HTW.out] at HF6
          generalize zs[j] = z at *
          obtain ⟨u, cc⟩ := z
          dsimp only at hc6 hr6 hrw HF6
          obtain ⟨A7, c7, rfl, -⟩ := hr6.form
          have HR6 := hd hr6
          clear hr6
          obtain ⟨A8, c8, rfl, -⟩ := OutZ.form HO2.out
          have hj0 : (j : Int) < (zs.length : Int) := by omega
          go_wp2_with fail
          refine (slices_Clone cc _ wr HR6.out (by omega)).mono ?_
          rintro e w1 ⟨u1, rfl, hu1, hx1⟩
          go_wp2_with (at_builtin; refine appI w1 hu1 rfl _ _ rfl _ (by rfl) (by rfl) (by omega) hx1.size ?_; intro v1 w2 ho1 hg1 _)
          have Y2 : Ext wr w2 := ext_app hx1 hg1 (ownI_ge hu1)
          obtain ⟨B1, d1, rfl, -⟩ := OwnI.form ho1
          refine (slices_Clone cc _ w2 (HR6.out.ext Y2) (by omega)).mono ?_
          rintro e w3 ⟨u2, rfl, hu2, hx3⟩
          have HO7 := hd (own_ext HO2.out Y2)
          have HO1 := hd ho1
          clear hg1 hu1
          have hs2 := Y2.size
          have hs3 := hx3.size
          go_wp2_with (at_builtin; first
            | (refine appI w3 hu2 rfl _ _ rfl _ (by rfl) (by rfl) (by omega) hx3.size ?_; intro v3 w4 ho3 hg3 _; obtain ⟨B3, d3, rfl, -⟩ := OwnI.form ho3; have Y4 : Ext w2 w4 := ext_app hx3 hg3 (ownI_ge hu2))
            | (go_loud (refine appZ (ys := [(.slice B1 (cc.length + 1) d1, cc ++ [x]), (.slice B3 (cc.length + 1) d3, cc ++ [-x])]) _ (own_ext HO7.out (Ext.trans Y4 (Ext.new _ _))) (rdZ_at (us := [.slice B1 (cc.length + 1) d1, .slice B3 (cc.length + 1) d3]) (heap_n1 _ _) (by simp)) (by intro u hu; simp at hu; rcases hu with rfl | rfl <;> rfl) rfl _ _ rfl (by rfl) (by rfl) (by simp; omega) (by have e1 := HX2.out.size; have e2 := Y4.size; simp only [World.size_alloc]; omega) ?_); intro v5 w6 ho5 hg5 _))
          have hz1 : RowsZ w2 wo.heap.size w2.heap.size (ys ++ [(.slice B1 (cc ++ [x]).length d1, cc ++ [x])]) := HZ2.out.new Y2 HO1.out HX2.out.size (Nat.le_refl _) hs2
          have hz2 := hz1.new Y4 ho3 (Nat.le_trans HX2.out.size hs2) (Nat.le_refl _) Y4.size
          rw [List.append_assoc, List.length_append, List.length_append] at hz2
          have hz3 := hz2.ext (Ext.new w4 (.cells #[.slice B1 (cc.length + 1) d1, .slice B3 (cc.length + 1) d3] 23))
          have hz4 := (hz3.grownO (own_ext HO7.out (Y4.trans (Ext.new _ _))) hg5).hi_size
          have hy6 : Ext wo w6 := ext_appS (HX2.out.trans (Y2.trans (Y4.trans (Ext.new _ _)))) hg5 (fun g hg => (own_blocks HO2.out g hg).1)
          go_wp2
          go_roundw
          case rel => exact ⟨j + 1, _, by omega, by go_num, ho5, hz4, by rw [List.map_append, HS2.out, HF6.out]; rfl, by simp [HYL.out]; omega, hy6⟩
          case measure => simp [intOf]; omega
        · obtain rfl : j = zs.length := by omega
          go_wp2
          go_roundw
          case rel => exact ⟨k + 1, ys, by omega, by go_num, own_rebase HO2.out hs0, HZ2.out.lo_le hs0, by rw [HS2.out, HFE.out], HX.out.trans HX2.out⟩
          case measure => simp [intOf]; omega
    · obtain rfl : k = xs.length := by omega
      go_wp2
      go_ret
      exact ⟨_, zs, rfl, hO, HZ.out, by rw [HS.out, HFIN.out], HX.out⟩
theorem neg_even {n : Int} (h : 0 ≤ n) : n.tmod 2 = n % 2 := Int.tmod_eq_emod_of_nonneg h
set_option maxRecDepth 100000 in
set_option maxHeartbeats 6400000 in
theorem i_xorClauses (xs : List Int) (odd : Bool) (v : Value) (w : World) (h : RdI w v xs) (hl : xs.length ≤ 10) (hb : Hid (∀ x ∈ xs, -1000 ≤ x ∧ x ≤ 1000)) : Calls Try.prog 27 #[v, .bool odd] w (RetRows w (xorL xs odd)) := by
  have HR := hd h
  obtain ⟨A0, c0, rfl, -⟩ := h.form
  have HRW : Hid (∀ c ∈ sgn xs, c.length ≤ 10) := hd fun c hc => by rw [sgn_row c hc]; exact hl
  have HLN : Hid ((sgn xs).length ≤ 1024) := hd (by rw [sgn_length]; exact Nat.le_trans (Nat.pow_le_pow_right (by decide) hl) (by decide))
  have HXL : Hid (∀ odd, xorL xs odd = (sgn xs).filter (keepX odd)) := hd fun _ => rfl
  clear h
  go_enter Try.func27, Try.ntmps27
  go_wp2_with fail
  refine (i_signings xs _ w HR.out hl hb).mono ?_
  rintro e w1 ⟨v1, zs, rfl, hO, hZ, hS, hx⟩
  obtain ⟨A1, c1, rfl, -⟩ := OutZ.form hO
  have hzl : zs.length ≤ 1024 := by
    have e : zs.length = (sgn xs).length := by rw [← hS, List.length_map]
    have := HLN.out
    omega
  have HO := hd hO
  have HZ := hd hZ
  have HS := hd hS
  have HX := hd hx
  have HRZ : Hid (∀ z ∈ zs, z.2.length ≤ 10) := hd fun z hz => HRW.out z.2 (by rw [← HS.out]; exact List.mem_map_of_mem hz)
  have HFS : Hid (∀ k (h : k < zs.length), (zs.take (k + 1)).filter (fun z => keepX odd z.2) = (zs.take k).filter (fun z => keepX odd z.2) ++ if keepX odd zs[k].2 then [zs[k]] else []) := hd fun k h => by
    rw [List.take_succ_eq_append_getElem h, List.filter_append]
    congr 1
    cases hh : keepX odd zs[k].2 <;> simp [hh]
  have HFL : Hid (∀ k, ((zs.take k).filter (fun z => keepX odd z.2)).length ≤ 1024) := hd fun k => Nat.le_trans (List.length_filter_le _ _) (Nat.le_trans (by rw [List.length_take]; exact Nat.min_le_right _ _) hzl)
  have HFE : Hid (((zs.take zs.length).filter (fun z => keepX odd z.2)).map Prod.snd = xorL xs odd) := hd (by rw [List.take_length, HXL.out, ← HS.out, List.filter_map]; rfl)
  have HKX : Hid (∀ c, keepX odd c = (decide ((negN c).tmod 2 = 0) == odd)) := hd fun _ => rfl
  clear hO hZ hS hx HLN HXL HRW
  have hs1 := HX.out.size
  go_wp2
  go_loopw [5, 14] (fun ov i wr => ∃ k : Nat, k ≤ zs.length ∧ i = .int .i64 (k : Int) ∧ OutZ wr w1.heap.size ov ((zs.take k).filter fun z => keepX odd z.2) ∧ Ext w1 wr) (fun _ i _ => zs.length - (intOf i).toNat)
  case atStart => exact ⟨0, by omega, rfl, own_nil _ _ _ _, Ext.refl _⟩
  case round =>
    obtain ⟨k, hk, rfl, ho2, hx2⟩ := hrel
    have HO2 := hd ho2
    have HX2 := hd hx2
    have hln := HFL.out k
    clear ho2 hx2
    by_cases hlt : k < zs.length
    · obtain ⟨a1, rfl, hc1⟩ := OutZ.at_ HO hlt
      replace hc1 := HX2.out.cell hc1
      have hr1 := (HZ.out.1 _ (List.getElem_mem hlt)).1.rd.ext HX2.out
      have hrw := HRZ.out _ (List.getElem_mem hlt)
      have HF1 := hd (HFS.out k hlt)
      generalize zs[k] = z at *
      obtain ⟨u, cc⟩ := z
      dsimp only at hc1 hr1 hrw HF1
      obtain ⟨A2, c2, rfl, h21, h22, ha2⟩ := hr1.form
      generalize (zs.take k).filter (fun z => keepX odd z.2) = ys at *
      obtain ⟨A3, c3, rfl, -⟩ := OutZ.form HO2.out
      have HNS := hd (fun j (hj : j < cc.length) => negN_take hj)
      have HNB := hd (fun j => negN_bd (cc.take j))
      have HKC := hd (HKX.out cc)
      have HN0 : Hid (negN (cc.take 0) = 0) := hd rfl
      clear hr1
      go_wp2
      go_loop [8, 20] (fun n j => ∃ m : Nat, m ≤ cc.length ∧ j = .int .i64 (m : Int) ∧ n = .int .i64 (negN (cc.take m))) (fun _ j => cc.length - (intOf j).toNat)
      case atStart => exact ⟨0, by omega, rfl, by rw [HN0.out]⟩
      case round =>
        obtain ⟨m, hm, rfl, rfl⟩ := hrel
        have hnb := HNB.out m
        have hml : (cc.take m).length ≤ 10 := by rw [List.length_take]; omega
        by_cases hlt2 : m < cc.length
        · obtain ⟨a2, rfl, hc2⟩ := RdI.at_ ha2 hlt2
          have HN1 := hd (HNS.out m hlt2)
          generalize cc[m] = x at *
          generalize negN (cc.take m) = nn at *
          by_cases hneg : x < 0
          · rw [if_pos hneg] at HN1
            go_wp2
            go_roundw
            case rel => exact ⟨m + 1, by omega, by go_num, by rw [HN1.out]⟩
            case measure => simp [intOf]; omega
          · rw [if_neg hneg] at HN1
            go_wp2
            go_roundw
            case rel => exact ⟨m + 1, by omega, by go_num, by rw [HN1.out]; simp⟩
            case measure => simp [intOf]; omega
        · obtain rfl : m = cc.length := by omega
          rw [List.take_length] at hnb
          rw [List.take_length]
          generalize negN cc = nn at *
          obtain ⟨hn0, hn1⟩ := hnb
          rw [Int.tmod_eq_emod_of_nonneg hn0] at HKC
          have hn10 : nn ≤ 10 := by omega
          clear hn1 hml
          by_cases hp : nn % 2 = 0
          · cases odd
            · have HF2 := HF1.out
              rw [HKC.out, decide_eq_true hp, if_neg (by decide), List.append_nil] at HF2
              replace HF2 := hd HF2
              go_wp2
              go_roundw
              case rel => exact ⟨k + 1, by omega, by go_num, by rw [HF2.out]; exact HO2.out, HX2.out⟩
              case measure => simp [intOf]; omega
            · have HF2 := HF1.out
              rw [HKC.out, decide_eq_true hp, if_pos (by decide)] at HF2
              replace HF2 := hd HF2
              go_wp2_with (at_builtin; refine appZ (ys := [(.slice A2 cc.length c2, cc)]) _ (own_ext HO2.out (Ext.new _ _)) (rdZ_at (us := [.slice A2 cc.length c2]) (heap_n1 _ _) (by simp)) (by intro u hu; simp at hu; rw [hu]; rfl) rfl _ _ rfl (by rfl) (by rfl) (by simp; omega) (by have e1 := HX2.out.size; simp only [World.size_alloc]; omega) ?_; intro v5 w6 ho5 hg5 _)
              go_roundw
              case rel => exact ⟨k + 1, by omega, by go_num, by rw [HF2.out]; exact ho5, ext_app HX2.out hg5 (fun g hg => (own_blocks HO2.out g hg).1)⟩
              case measure => simp [intOf]; omega
          · have hp1 : nn % 2 = 1 := by omega
            cases odd
            · have HF2 := HF1.out
              rw [HKC.out, decide_eq_false hp, if_pos (by decide)] at HF2
              replace HF2 := hd HF2
              clear hp
              go_wp2_with (at_builtin; refine appZ (ys := [(.slice A2 cc.length c2, cc)]) _ (own_ext HO2.out (Ext.new _ _)) (rdZ_at (us := [.slice A2 cc.length c2]) (heap_n1 _ _) (by simp)) (by intro u hu; simp at hu; rw [hu]; rfl) rfl _ _ rfl (by rfl) (by rfl) (by simp; omega) (by have e1 := HX2.out.size; simp only [World.size_alloc]; omega) ?_; intro v5 w6 ho5 hg5 _)
              go_roundw
              case rel => exact ⟨k + 1, by omega, by go_num, by rw [HF2.out]; exact ho5, ext_app HX2.out hg5 (fun g hg => (own_blocks HO2.out g hg).1)⟩
              case measure => simp [intOf]; omega
            · have HF2 := HF1.out
              rw [HKC.out, decide_eq_false hp, if_neg (by decide), List.append_nil] at HF2
              replace HF2 := hd HF2
              clear hp
              go_wp2
              go_roundw
              case rel => exact ⟨k + 1, by omega, by go_num, by rw [HF2.out]; exact HO2.out, HX2.out⟩
              case measure => simp [intOf]; omega
    · obtain rfl : k = zs.length := by omega
      go_wp2
      go_ret
      exact ⟨_, _, rfl, own_rebase HO2.out hs1, ((HZ.out.ext HX2.out).sub ((List.filter_sublist).trans (List.take_sublist _ _))).hi_size, HFE.out, HX.out.trans HX2.out⟩
end Go.Proofs.Ytgkifandgacncaa
