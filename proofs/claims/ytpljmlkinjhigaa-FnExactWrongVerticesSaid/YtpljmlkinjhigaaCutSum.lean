/-
  CutSum of both sides. Condition: sizes up to 2^20.
-/
import Derived.Test.YtpljmlkinjhigaaCut
import Derived.Test.YtpljmlkinjhigaaBits
import Derived.Deep.RegionHeld3
namespace Go.Proofs.Ytpljmlkinjhigaa
open Go.RowKit
def cutSumB (g : Chg) (xs : List Int) (bs : Int) : Bool := someB g xs && bitsB g.es.length bs
def cutSumN (g : Chg) (xs : List Int) (bs : Int) : Int := if cutSumB g xs bs then sumBits bs.toNat (cutL g xs) (sumAt g.cs xs 0) % 2 else 0
theorem cut_len (g : Chg) (xs : List Int) : (cutL g xs).length ≤ g.es.length := selN_len _ _
theorem cut_idx (g : Chg) (xs : List Int) : Idx g.es.length (cutL g xs) := selN_idx _ _
theorem sumAt_bd {cs : List Int} (hc : ∀ c ∈ cs, 0 ≤ c ∧ c ≤ 1) : ∀ (xs : List Int) (s : Int), 0 ≤ s → 0 ≤ sumAt cs xs s ∧ sumAt cs xs s ≤ s + xs.length
  | [], s, h => ⟨h, by simp [sumAt]⟩
  | x :: r, s, h => by
    have hy : 0 ≤ cs[x.toNat]?.getD 0 ∧ cs[x.toNat]?.getD 0 ≤ 1 := by
      by_cases hx : x.toNat < cs.length
      · rw [List.getElem?_eq_getElem hx]; exact hc _ (List.getElem_mem hx)
      · rw [List.getElem?_eq_none (by omega)]; simp
    have := sumAt_bd hc r (s + cs[x.toNat]?.getD 0) (by omega)
    unfold sumAt
    simp only [List.length_cons]
    omega
set_option maxRecDepth 100000 in
set_option maxHeartbeats 1600000 in
theorem s_CutSum (g : Chg) (gv : Value) (xs : List Int) (v : Value) (bs : Int) (w : World) (h : RdC w gv g) (b : Bd_Charged g) (_ : I64_Charged g) (hv : RdI w v xs) (bx : Bd_IntS xs) (_ : I64_IntS xs) (_ : I64 bs) :
    Calls Try.prog 37 #[gv, v, .int .i64 bs] w (RetX w (.tuple #[.int .i64 (cutSumN g xs bs), .bool (cutSumB g xs bs)])) := by
  have HG := hd h
  have HB := hd b
  have HV := hd hv
  have HBX := hd bx
  obtain ⟨A, c, A', c', rfl⟩ := h.form
  clear h b hv bx
  obtain ⟨q, hq⟩ : ∃ q, someB g xs = q := ⟨_, rfl⟩
  obtain ⟨r, hr⟩ : ∃ r, bitsB g.es.length bs = r := ⟨_, rfl⟩
  have HQ := hd hq
  have HR := hd hr
  have HI := hd (fun e => someB_idx (hq.trans e) : q = true → _)
  clear hq
  go_enter Try.func37, Try.ntmps37
  go_wp2_with fail
  refine (s_l27Some g _ xs _ _ (HG.out.ext (Ext.new _ _)) (HV.out.ext (Ext.new _ _)) HBX.out).mono ?_
  rw [HQ.out]
  rintro e w1 ⟨rfl, hx1⟩
  have X1 := hd hx1
  obtain ⟨k0, k1, k2⟩ := blk3 (hx1.heap (blk_new (w := w) (.cells #[.int .i64 g.n, .slice A g.es.length c, .slice A' g.cs.length c'] 40) rfl))
  clear hx1
  cases q
  · clear hr
    go_wp2
    go_ret2
    exact RetX.mk (by unfold cutSumN cutSumB; rw [HQ.out]; rfl) X1.out.box
  · obtain ⟨hidx, hl8, hc01, hes⟩ := HI.out rfl
    have HIDX := hd hidx
    have HC01 := hd hc01
    clear hidx hc01
    cases r
    · clear hr
      go_wp2_with fail
      refine (rt (s_l6Bits g.es.length bs _ (by omega)) HR).mono ?_
      rintro e w2 ⟨rfl, rfl⟩
      go_wp2
      go_ret2
      exact RetX.mk (by unfold cutSumN cutSumB; rw [HQ.out, HR.out]; rfl) X1.out.box
    · obtain ⟨bn, rfl, hbn⟩ := bitsB_nat hr
      clear hr
      have hb12 : bn < 4096 := Nat.lt_of_lt_of_le hbn (Nat.le_trans (Nat.pow_le_pow_right (by decide) hes) (by decide))
      have HF : Hid (cutSumN g xs (bn : Int) = sumBits bn (cutL g xs) (sumAt g.cs xs 0) % 2) := hd (by unfold cutSumN cutSumB; rw [HQ.out, HR.out]; rfl)
      have HF2 : Hid (cutSumB g xs (bn : Int) = true) := hd (by unfold cutSumB; rw [HQ.out, HR.out]; rfl)
      have hsb := sumAt_bd HC01.out xs 0 (by omega)
      have hcl := cut_len g xs
      have HCI := hd (cut_idx g xs)
      clear hbn
      go_wp2_with fail
      refine (rt (s_l6Bits g.es.length _ _ (by omega)) HR).mono ?_
      rintro e w2 ⟨rfl, rfl⟩
      go_wp2_with fail
      obtain ⟨wo, rfl⟩ : ∃ wo : World, wo = w1 := ⟨_, rfl⟩
      go_region_held3 (fun w' => (w'.cell? ⟨w.heap.size, 0, none⟩ = some (.int .i64 g.n) ∧ w'.cell? ⟨w.heap.size, 1, none⟩ = some (.slice A g.es.length c) ∧ w'.cell? ⟨w.heap.size, 2, none⟩ = some (.slice A' g.cs.length c')) ∧ Ext wo w')
        ((refine ⟨⟨Ext.cell ?_ k0, Ext.cell ?_ k1, Ext.cell ?_ k2⟩, ?_⟩ <;> (first | assumption | exact Ext.refl _ | exact (Ext.refl _).drew)))
        (first
          | (go_at_call 86; refine (s_l27Sum g _ xs _ _ ?_ ?_ HIDX.out hl8 HC01).mono ?_
             · go_split_ands; exact HG.out.ext (X1.out.box.trans (by assumption))
             · go_split_ands; exact HV.out.ext (X1.out.box.trans (by assumption))
             rintro e wa ⟨rfl, hxa⟩
             have YA : Ext wo wa := Ext.trans (by go_split_ands; assumption) hxa)
          | (go_at_call 77; refine (s_l27Cut g _ xs _ _ ?_ HB.out.1 ?_ HBX.out).mono ?_
             · go_split_ands; exact HG.out.ext (X1.out.box.trans (by assumption))
             · go_split_ands; exact HV.out.ext (X1.out.box.trans (by assumption))
             rintro e wb ⟨u, rfl, hub, hxb⟩
             have YB : Ext wo wb := Ext.trans (by go_split_ands; assumption) hxb))
      have XB := hd (X1.out.box.trans YB)
      obtain ⟨A3, c3, rfl, h31, h32, HU⟩ := hub.rd.form
      clear hub YA YB hxa hxb k0 k1 k2 HI
      generalize cutL g xs = L at *
      generalize sumAt g.cs xs 0 = s0 at *
      generalize g.es.length = ne at *
      obtain ⟨hsb0, hsb1⟩ := hsb
      go_wp2
      go_loop [10, 8] (fun i sv => ∃ (k : Nat) (s : Int), k ≤ L.length ∧ i = .int .i64 k ∧ sv = .int .i64 s ∧ 0 ≤ s ∧ s ≤ 8 + k ∧ Hid (sumBits bn L s0 = sumBits bn (L.drop k) s)) (fun i _ => L.length - (intOf i).toNat)
      case atStart => exact ⟨0, s0, by omega, rfl, rfl, by omega, by omega, hd rfl⟩
      case round =>
        obtain ⟨k, s, hk, rfl, rfl, hs0, hs1, HS⟩ := hrel
        by_cases hlt : k < L.length
        · obtain ⟨a, rfl, hc⟩ := RdI.at_ HU hlt
          rw [drop_cons hlt] at HS
          obtain ⟨j, hj, hjn⟩ := HCI.out.get hlt
          rw [hj] at hc HS
          clear hj
          have hbl := bitN_lt bn j
          have hsh := shr_and (b := bn) (k := j) (by omega)
          have HBT : Hid (bitN bn ((j : Int)).toNat = bitN bn j) := hd (by rw [Int.toNat_natCast])
          generalize bitN bn j = bt at *
          go_wp2
          go_round
          case rel => exact ⟨k + 1, s + bt, by omega, by go_num, rfl, by omega, by omega, hd (by rw [HS.out, sumBits, HBT.out])⟩
          case measure => simp [intOf]; omega
        · go_wp2
          go_ret2
          exact RetX.mk (by rw [HF.out, HF2.out, HS.out, List.drop_eq_nil_of_le (by omega)]; rfl) XB.out
theorem i_edgeBits (g : Chg) (bs : Int) (A A' : Option Addr) (c c' : Nat) (w : World) {r : Bool} (hr : bitsB g.es.length bs = r) (h : g.es.length ≤ 12) :
    Calls Try.prog 82 #[.agg #[.int .i64 g.n, .slice A g.es.length c, .slice A' g.cs.length c'], .int .i64 bs] w (RetX w (.bool r)) := by
  have HR := hd hr
  clear hr
  go_enter Try.func82, Try.ntmps82
  go_wp2_with fail
  refine (rt (i_bitsOk g.es.length bs _ (by omega)) HR).mono ?_
  rintro e w1 ⟨rfl, rfl⟩
  go_wp2
  go_ret
  exact RetX.mk rfl (Ext.new _ _)
set_option maxRecDepth 100000 in
set_option maxHeartbeats 3200000 in
theorem i_CutSum (g : Chg) (gv : Value) (xs : List Int) (v : Value) (bs : Int) (w : World) (h : RdC w gv g) (b : Bd_Charged g) (_ : I64_Charged g) (hv : RdI w v xs) (bx : Bd_IntS xs) (_ : I64_IntS xs) (_ : I64 bs) :
    Calls Try.prog 38 #[gv, v, .int .i64 bs] w (RetX w (.tuple #[.int .i64 (cutSumN g xs bs), .bool (cutSumB g xs bs)])) := by
  have HG := hd h
  have HB := hd b
  have HV := hd hv
  have HBX := hd bx
  obtain ⟨A, c, A', c', rfl⟩ := h.form
  obtain ⟨A2, c2, rfl, h21, h22, ha⟩ := hv.form
  have hC : RdI w (.slice A' g.cs.length c') g.cs := by
    obtain ⟨ve, vc, hh, _, hC⟩ := h
    injection hh with hh
    injection hh with hh
    simp only [List.cons.injEq, and_true] at hh
    rw [hh.2.2]; exact hC
  have hac := hd hC
  have hm2 : g.cs.length ≤ maxLen := by obtain ⟨A9, c9, h9, h91, h92, -⟩ := hC.form; omega
  clear h b hv bx hC
  obtain ⟨q, hq⟩ : ∃ q, goodC g = q := ⟨_, rfl⟩
  obtain ⟨q2, hq2⟩ : ∃ q, risingB 0 (g.n - 1) xs = q := ⟨_, rfl⟩
  obtain ⟨r, hr⟩ : ∃ r, bitsB g.es.length bs = r := ⟨_, rfl⟩
  have HQ := hd hq
  have HQ2 := hd hq2
  have HR := hd hr
  have HGI : Hid (q = true → (1 ≤ g.n ∧ g.n ≤ 8) ∧ g.es.length ≤ 12) := hd fun e => by have := goodC_inv (hq.trans e); omega
  have HI : Hid (q = true → q2 = true → _) := hd (fun e e2 => someB_idx (by unfold someB; rw [hq, hq2, e, e2]; rfl))
  clear hq hq2
  go_enter Try.func38, Try.ntmps38
  go_wp2_with fail
  refine (i_IsCharged g _ _ (HG.out.ext (Ext.new _ _))).mono ?_
  rw [HQ.out]
  rintro e w1 ⟨rfl, hx1⟩
  have X1 := hd hx1
  obtain ⟨k0, k1, k2⟩ := blk3 (hx1.heap (blk_new (w := w) (.cells #[.int .i64 g.n, .slice A g.es.length c, .slice A' g.cs.length c'] 40) rfl))
  clear hx1
  cases q
  · clear hr
    go_wp2
    go_ret2
    exact RetX.mk (by unfold cutSumN cutSumB someB; rw [HQ.out]; rfl) X1.out.box
  · obtain ⟨⟨n1, n2⟩, hes⟩ := HGI.out rfl
    go_wp2_with fail
    refine (i_verticesOk g _ xs _ _ (HG.out.ext X1.out.box) n1 n2 (HV.out.ext X1.out.box) HBX.out).mono ?_
    rw [HQ2.out]
    rintro e w2 ⟨rfl, hx2⟩
    have X2 := hd (X1.out.trans hx2)
    clear k0 k1 k2 hx2
    obtain ⟨k0, k1, k2⟩ := blk3 (X2.out.heap (blk_new (w := w) (.cells #[.int .i64 g.n, .slice A g.es.length c, .slice A' g.cs.length c'] 40) rfl))
    cases q2
    · clear hr
      go_wp2
      go_ret2
      exact RetX.mk (by unfold cutSumN cutSumB someB; rw [HQ.out, HQ2.out]; rfl) X2.out.box
    · obtain ⟨hidx, hl8, hc01, -⟩ := HI.out (by simp) (by simp)
      have HIDX := hd hidx
      have HC01 := hd hc01
      clear hidx hc01
      go_wp2_with fail
      refine (i_edgeBits g bs _ _ _ _ _ HR.out hes).mono ?_
      rintro e w3 ⟨rfl, hx3⟩
      have X3 := hd (X2.out.trans hx3)
      clear k0 k1 k2 hx3
      obtain ⟨k0, k1, k2⟩ := blk3 (X3.out.heap (blk_new (w := w) (.cells #[.int .i64 g.n, .slice A g.es.length c, .slice A' g.cs.length c'] 40) rfl))
      cases r
      · clear hr
        go_wp2
        go_ret2
        exact RetX.mk (by unfold cutSumN cutSumB someB; rw [HQ.out, HQ2.out, HR.out]; rfl) X3.out.box
      · obtain ⟨bn, rfl, hbn⟩ := bitsB_nat hr
        clear hr
        have hb12 : bn < 4096 := Nat.lt_of_lt_of_le hbn (Nat.le_trans (Nat.pow_le_pow_right (by decide) hes) (by decide))
        have HF : Hid (cutSumN g xs (bn : Int) = sumBits bn (cutL g xs) (sumAt g.cs xs 0) % 2) := hd (by unfold cutSumN cutSumB someB; rw [HQ.out, HQ2.out, HR.out]; rfl)
        have HF2 : Hid (cutSumB g xs (bn : Int) = true) := hd (by unfold cutSumB someB; rw [HQ.out, HQ2.out, HR.out]; rfl)
        have hsb := sumAt_bd HC01.out xs 0 (by omega)
        have hcl := cut_len g xs
        have HCI := hd (cut_idx g xs)
        have HHG := hd (HG.out.ext X3.out.box)
        have HHV := hd (HV.out.ext X3.out.box)
        clear hbn HGI HI HQ HQ2 HR
        go_wp2
        go_loop [30, 10, 8] (fun i _ sv => ∃ (k : Nat) (s : Int), k ≤ xs.length ∧ i = .int .i64 k ∧ sv = .int .i64 s ∧ 0 ≤ s ∧ s ≤ k ∧ Hid (sumAt g.cs xs 0 = sumAt g.cs (xs.drop k) s)) (fun i _ _ => xs.length - (intOf i).toNat)
        case atStart => exact ⟨0, 0, by omega, rfl, rfl, by omega, by omega, hd rfl⟩
        case round =>
          obtain ⟨k, s, hk, rfl, rfl, hs0, hs1, HS⟩ := hrel
          by_cases hlt : k < xs.length
          · obtain ⟨a, rfl, hc0⟩ := RdI.at_ ha hlt
            rw [drop_cons hlt] at HS
            obtain ⟨j, hj, hjn⟩ := HIDX.out.get hlt
            rw [hj] at hc0 HS
            obtain ⟨a', rfl, hc1⟩ := RdI.at_ hac hjn
            have hce := HC01.out _ (List.getElem_mem hjn)
            have HGE : Hid (g.cs[j]?.getD 0 = g.cs[j]) := hd (by rw [List.getElem?_eq_getElem hjn]; rfl)
            clear hj
            have c0 := X3.out.box.cell hc0
            have c1 := X3.out.box.cell hc1
            clear hc0 hc1
            generalize g.cs[j] = y at *
            obtain ⟨hy0, hy1⟩ := hce
            go_wp2
            go_round
            case rel => exact ⟨k + 1, s + y, by omega, by go_num, rfl, by omega, by omega, hd (by rw [HS.out, sumAt, Int.toNat_natCast, HGE.out])⟩
            case measure => simp [intOf]; omega
          · have HS2 : Hid (sumAt g.cs xs 0 = s) := hd (by rw [HS.out, List.drop_eq_nil_of_le (by omega)]; rfl)
            clear HS
            go_wp2_with fail
            refine (i_crossing g _ xs _ _ HHG.out HB.out.1 HHV.out HBX.out).mono ?_
            rintro e w4 ⟨u, rfl, hu, hx4⟩
            have X4 := hd (X3.out.box.trans hx4)
            obtain ⟨A3, c3, rfl, h31, h32, HU⟩ := hu.rd.form
            clear hu hx4 k0 k1 k2
            generalize cutL g xs = L at *
            rw [HS2.out] at HF hsb
            clear HS2
            generalize g.es.length = ne at *
            obtain ⟨hsb0, hsb1⟩ := hsb
            go_wp2
            go_loop [46, 12, 8] (fun i _ sv => ∃ (k : Nat) (t : Int), k ≤ L.length ∧ i = .int .i64 k ∧ sv = .int .i64 t ∧ 0 ≤ t ∧ t ≤ 8 + k ∧ Hid (sumBits bn L s = sumBits bn (L.drop k) t)) (fun i _ _ => L.length - (intOf i).toNat)
            case atStart => exact ⟨0, s, by omega, rfl, rfl, by omega, by omega, hd rfl⟩
            case round =>
              clear hk hlt hs0 hs1
              obtain ⟨k, t, hk, rfl, rfl, hs0, hs1, HS⟩ := hrel
              by_cases hlt : k < L.length
              · obtain ⟨a, rfl, hc⟩ := RdI.at_ HU hlt
                rw [drop_cons hlt] at HS
                obtain ⟨j, hj, hjn⟩ := HCI.out.get hlt
                rw [hj] at hc HS
                clear hj
                have hbl := bitN_lt bn j
                have hsh := shr_and (b := bn) (k := j) (by omega)
                have HBT : Hid (bitN bn ((j : Int)).toNat = bitN bn j) := hd (by rw [Int.toNat_natCast])
                generalize bitN bn j = bt at *
                go_wp2
                go_round
                case rel => exact ⟨k + 1, t + bt, by omega, by go_num, rfl, by omega, by omega, hd (by rw [HS.out, sumBits, HBT.out])⟩
                case measure => simp [intOf]; omega
              · go_wp2
                go_ret2
                exact RetX.mk (by rw [HF.out, HF2.out, HS.out, List.drop_eq_nil_of_le (by omega)]; rfl) X4.out
end Go.Proofs.Ytpljmlkinjhigaa
