/-
  WrongVertices of both sides. Condition: sizes up to 2^20.
-/
import Derived.Test.YtpljmlkinjhigaaCutSum
namespace Go.Proofs.Ytpljmlkinjhigaa
open Go.RowKit
def wrongS (g : Chg) (v b : Nat) : Int := sumBits b (atN g.es v g.es.length) (g.cs[v]?.getD 0)
def wrongB (g : Chg) (b : Nat) (v : Nat) : Bool := wrongS g v b % 2 == 1
def wrongOk (g : Chg) (bs : Int) : Bool := goodC g && bitsB g.es.length bs
def wrongL (g : Chg) (bs : Int) : List Int := if wrongOk g bs then selN (wrongB g bs.toNat) g.cs.length else []
theorem wrongL_bd (g : Chg) (bs : Int) : Bd_IntS (wrongL g bs) := by
  unfold wrongL Bd_IntS
  split
  · rename_i h
    unfold wrongOk at h
    rw [Bool.and_eq_true] at h
    have := goodC_inv h.1
    have := selN_len (wrongB g bs.toNat) g.cs.length
    omega
  · simp
theorem atN_idx (es : List (Int × Int)) (v : Int) : Idx es.length (atN es v es.length) := fun x hx => by
  unfold atN at hx
  obtain ⟨j, hj, rfl⟩ := List.mem_map.1 hx
  exact ⟨j, rfl, List.mem_range.1 (List.mem_filter.1 hj).1⟩
set_option maxRecDepth 100000 in
set_option maxHeartbeats 1600000 in
theorem s_l27Wrong (g : Chg) (gv : Value) (v b : Nat) (w : World) (h : RdC w gv g) (hes : g.es.length ≤ 12) (hv : v < g.cs.length) (hc : Hid (∀ c ∈ g.cs, 0 ≤ c ∧ c ≤ 1)) (hb : b < 4096) :
    Calls Try.prog 81 #[gv, .int .i64 v, .int .i64 b] w (RetX w (.bool (wrongB g b v))) := by
  have HG := hd h
  obtain ⟨A, c, A', c', rfl⟩ := h.form
  have hC : RdI w (.slice A' g.cs.length c') g.cs := by
    obtain ⟨ve, vc, hh, _, hC⟩ := h
    injection hh with hh
    injection hh with hh
    simp only [List.cons.injEq, and_true] at hh
    rw [hh.2.2]; exact hC
  have hac := hd hC
  clear h hC
  obtain ⟨a', rfl, hc1⟩ := RdI.at_ hac hv
  have hce := hc.out _ (List.getElem_mem hv)
  have HC : Hid (g.cs[v]?.getD 0 = g.cs[v]) := hd (by rw [List.getElem?_eq_getElem hv]; rfl)
  have c0 := (Ext.new w (.cells #[.int .i64 g.n, .slice A g.es.length c, .slice (some a') g.cs.length c'] 40)).cell hc1
  have hal := atN_len g.es v g.es.length
  have HAI := hd (atN_idx g.es v)
  clear hc1
  have HF : Hid (wrongB g b v = (sumBits b (atN g.es v g.es.length) g.cs[v] % 2 == 1)) := hd (by unfold wrongB wrongS; rw [HC.out])
  generalize g.cs[v] = y at *
  obtain ⟨hy0, hy1⟩ := hce
  have hvn : (v : Int) < (g.cs.length : Int) := by omega
  go_enter Try.func81, Try.ntmps81
  go_wp2_with fail
  refine (s_l27At g _ v _ (HG.out.ext (Ext.new _ _)) (by omega)).mono ?_
  rintro e w1 ⟨u, rfl, hu, hx1⟩
  have X1 := hd hx1.box
  obtain ⟨A3, c3, rfl, h31, h32, HU⟩ := hu.rd.form
  clear hu hx1 c0 HC
  generalize atN g.es v g.es.length = L at *
  generalize g.es.length = ne at *
  go_wp2
  go_loop [9, 7] (fun i sv => ∃ (k : Nat) (s : Int), k ≤ L.length ∧ i = .int .i64 k ∧ sv = .int .i64 s ∧ 0 ≤ s ∧ s ≤ 8 + k ∧ Hid (sumBits b L y = sumBits b (L.drop k) s)) (fun i _ => L.length - (intOf i).toNat)
  case atStart => exact ⟨0, y, by omega, rfl, rfl, by omega, by omega, hd rfl⟩
  case round =>
    obtain ⟨k, s, hk, rfl, rfl, hs0, hs1, HS⟩ := hrel
    by_cases hlt : k < L.length
    · obtain ⟨a, rfl, hc⟩ := RdI.at_ HU hlt
      rw [drop_cons hlt] at HS
      obtain ⟨j, hj, hjn⟩ := HAI.out.get hlt
      rw [hj] at hc HS
      clear hj
      have hbl := bitN_lt b j
      have hsh := shr_and (b := b) (k := j) (by omega)
      have HBT : Hid (bitN b ((j : Int)).toNat = bitN b j) := hd (by rw [Int.toNat_natCast])
      generalize bitN b j = bt at *
      go_wp2
      go_round
      case rel => exact ⟨k + 1, s + bt, by omega, by go_num, rfl, by omega, by omega, hd (by rw [HS.out, sumBits, HBT.out])⟩
      case measure => simp [intOf]; omega
    · go_wp2
      go_ret
      exact RetX.mk (by rw [HF.out, HS.out, List.drop_eq_nil_of_le (by omega)]; rfl) X1.out
set_option maxRecDepth 100000 in
set_option maxHeartbeats 1600000 in
theorem i_wrong (g : Chg) (gv : Value) (v b : Nat) (w : World) (h : RdC w gv g) (hes : g.es.length ≤ 12) (hv : v < g.cs.length) (hc : Hid (∀ c ∈ g.cs, 0 ≤ c ∧ c ≤ 1)) (hb : b < 4096) :
    Calls Try.prog 83 #[gv, .int .i64 v, .int .i64 b] w (RetX w (.bool (wrongB g b v))) := by
  have HG := hd h
  obtain ⟨A, c, A', c', rfl⟩ := h.form
  have hC : RdI w (.slice A' g.cs.length c') g.cs := by
    obtain ⟨ve, vc, hh, _, hC⟩ := h
    injection hh with hh
    injection hh with hh
    simp only [List.cons.injEq, and_true] at hh
    rw [hh.2.2]; exact hC
  have hac := hd hC
  clear h hC
  obtain ⟨a', rfl, hc1⟩ := RdI.at_ hac hv
  have hce := hc.out _ (List.getElem_mem hv)
  have HC : Hid (g.cs[v]?.getD 0 = g.cs[v]) := hd (by rw [List.getElem?_eq_getElem hv]; rfl)
  have c0 := (Ext.new w (.cells #[.int .i64 g.n, .slice A g.es.length c, .slice (some a') g.cs.length c'] 40)).cell hc1
  have hal := atN_len g.es v g.es.length
  have HAI := hd (atN_idx g.es v)
  clear hc1
  have HF : Hid (wrongB g b v = (sumBits b (atN g.es v g.es.length) g.cs[v] % 2 == 1)) := hd (by unfold wrongB wrongS; rw [HC.out])
  generalize g.cs[v] = y at *
  obtain ⟨hy0, hy1⟩ := hce
  have hvn : (v : Int) < (g.cs.length : Int) := by omega
  go_enter Try.func83, Try.ntmps83
  go_wp2_with fail
  refine (i_at g _ v _ (HG.out.ext (Ext.new _ _)) (by omega)).mono ?_
  rintro e w1 ⟨u, rfl, hu, hx1⟩
  have X1 := hd hx1.box
  obtain ⟨A3, c3, rfl, h31, h32, HU⟩ := hu.rd.form
  clear hu hx1 c0 HC
  generalize atN g.es v g.es.length = L at *
  generalize g.es.length = ne at *
  go_wp2
  go_loop [19, 9, 7] (fun i _ sv => ∃ (k : Nat) (s : Int), k ≤ L.length ∧ i = .int .i64 k ∧ sv = .int .i64 s ∧ 0 ≤ s ∧ s ≤ 8 + k ∧ Hid (sumBits b L y = sumBits b (L.drop k) s)) (fun i _ _ => L.length - (intOf i).toNat)
  case atStart => exact ⟨0, y, by omega, rfl, rfl, by omega, by omega, hd rfl⟩
  case round =>
    obtain ⟨k, s, hk, rfl, rfl, hs0, hs1, HS⟩ := hrel
    by_cases hlt : k < L.length
    · obtain ⟨a, rfl, hc⟩ := RdI.at_ HU hlt
      rw [drop_cons hlt] at HS
      obtain ⟨j, hj, hjn⟩ := HAI.out.get hlt
      rw [hj] at hc HS
      clear hj
      have hbl := bitN_lt b j
      have hsh := shr_and (b := b) (k := j) (by omega)
      have HBT : Hid (bitN b ((j : Int)).toNat = bitN b j) := hd (by rw [Int.toNat_natCast])
      generalize bitN b j = bt at *
      go_wp2
      go_round
      case rel => exact ⟨k + 1, s + bt, by omega, by go_num, rfl, by omega, by omega, hd (by rw [HS.out, sumBits, HBT.out])⟩
      case measure => simp [intOf]; omega
    · go_wp2
      go_ret
      exact RetX.mk (by rw [HF.out, HS.out, List.drop_eq_nil_of_le (by omega)]; rfl) X1.out
set_option maxRecDepth 100000 in
set_option maxHeartbeats 1600000 in
theorem s_WrongVertices (g : Chg) (gv : Value) (bs : Int) (w : World) (h : RdC w gv g) (_ : Bd_Charged g) (_ : I64_Charged g) (_ : I64 bs) :
    Calls Try.prog 33 #[gv, .int .i64 bs] w (RetL2 w (wrongL g bs) (wrongOk g bs)) := by
  have HG := hd h
  obtain ⟨A, c, A', c', rfl⟩ := h.form
  clear h
  obtain ⟨q, hq⟩ : ∃ q, goodC g = q := ⟨_, rfl⟩
  obtain ⟨r, hr⟩ : ∃ r, bitsB g.es.length bs = r := ⟨_, rfl⟩
  have HQ := hd hq
  have HR := hd hr
  have HI := hd (fun e => goodC_inv (hq.trans e) : q = true → _)
  have HO0 : Hid (OwnI ((w.alloc (.cells #[.int .i64 g.n, .slice A g.es.length c, .slice A' g.cs.length c'] 40)).alloc (.cells #[] 3)) (w.heap.size + 1) 3 (.slice (some ⟨w.heap.size + 1, 0, none⟩) 0 0) []) := hd (ownI_emp (by simp) (Nat.le_refl _))
  have HX0 : Hid (Ext (w.alloc (.cells #[.int .i64 g.n, .slice A g.es.length c, .slice A' g.cs.length c'] 40)) ((w.alloc (.cells #[.int .i64 g.n, .slice A g.es.length c, .slice A' g.cs.length c'] 40)).alloc (.cells #[] 3))) := hd (Ext.new _ _)
  clear hq
  go_enter Try.func33, Try.ntmps33
  go_wp2_with fail
  refine (s_l27Good g _ _ (HG.out.ext HX0.out.box)).mono ?_
  rw [HQ.out]
  rintro e w1 ⟨rfl, hx1⟩
  have HO1 := hd (HO0.out.ext hx1)
  have X1 := hd (HX0.out.trans hx1)
  clear hx1 HO0 HX0
  obtain ⟨k0, k1, k2⟩ := blk3 (X1.out.heap (blk_new (w := w) (.cells #[.int .i64 g.n, .slice A g.es.length c, .slice A' g.cs.length c'] 40) rfl))
  cases q
  · clear hr
    go_wp2
    go_ret2
    exact RetL2.mk (by unfold wrongOk; rw [HQ.out]; rfl) (by unfold wrongL wrongOk; rw [HQ.out]; exact own_rebase HO1.out (by omega)) X1.out.box
  · obtain ⟨n1, n2, hes, hcn, -, hc01, -⟩ := HI.out (by simp)
    have HC01 := hd hc01
    have HCN := hd hcn
    clear hc01 hcn HI
    cases r
    · clear hr
      go_wp2_with fail
      refine (rt (s_l6Bits g.es.length bs _ (by omega)) HR).mono ?_
      rintro e w2 ⟨rfl, rfl⟩
      go_wp2
      go_ret2
      exact RetL2.mk (by unfold wrongOk; rw [HQ.out, HR.out]; rfl) (by unfold wrongL wrongOk; rw [HQ.out, HR.out]; exact own_rebase HO1.out (by omega)) X1.out.box
    · obtain ⟨bn, rfl, hbn⟩ := bitsB_nat hr
      clear hr
      have hb12 : bn < 4096 := Nat.lt_of_lt_of_le hbn (Nat.le_trans (Nat.pow_le_pow_right (by decide) hes) (by decide))
      have HF : Hid (wrongL g (bn : Int) = selN (wrongB g bn) g.cs.length) := hd (by unfold wrongL wrongOk; rw [HQ.out, HR.out]; rfl)
      have HF2 : Hid (wrongOk g (bn : Int) = true) := hd (by unfold wrongOk; rw [HQ.out, HR.out]; rfl)
      clear hbn
      go_wp2_with fail
      refine (rt (s_l6Bits g.es.length _ _ (by omega)) HR).mono ?_
      rintro e w2 ⟨rfl, rfl⟩
      go_wp2
      go_loopw [7, 6] (fun i v' wr => ∃ k : Nat, k ≤ g.cs.length ∧ i = .int .i64 k ∧ OwnI wr (w.heap.size + 1) 3 v' (selN (wrongB g bn) k) ∧ Ext (w.alloc (.cells #[.int .i64 g.n, .slice A g.es.length c, .slice A' g.cs.length c'] 40)) wr) (fun i _ _ => g.cs.length - (intOf i).toNat)
      case atStart => exact ⟨0, by omega, rfl, HO1.out, X1.out⟩
      case round =>
        clear HO1 X1 k0 k1 k2
        obtain ⟨k, hk, rfl, ho, hx⟩ := hrel
        have HX := hd hx
        have HO := hd ho
        clear ho hx
        have hal := selN_len (wrongB g bn) k
        obtain ⟨k0, k1, k2⟩ := blk3 (HX.out.heap (blk_new (w := w) (.cells #[.int .i64 g.n, .slice A g.es.length c, .slice A' g.cs.length c'] 40) rfl))
        by_cases hlt : k < g.cs.length
        · have hkn : (k : Int) < g.n := by have := HCN.out; omega
          obtain ⟨q, hq⟩ : ∃ q, wrongB g bn k = q := ⟨_, rfl⟩
          have HW := hd hq
          clear hq
          go_wp2_with fail
          refine (s_l27Wrong g _ k bn _ (HG.out.ext HX.out.box) hes hlt HC01 hb12).mono ?_
          rw [HW.out]
          rintro e w3 ⟨rfl, hx3⟩
          have HO3 := hd (HO.out.ext hx3)
          have HX3 := hd (HX.out.trans hx3)
          have hxs : w.heap.size + 1 ≤ w3.heap.size := by have := HX3.out.size; simpa using this
          clear hx3
          cases q
          · have HN := hd (selN_no HW.out)
            go_wp2
            go_roundw
            case rel => exact ⟨k + 1, by omega, by go_num, by rw [HN.out]; exact HO3.out, HX3.out⟩
            case measure => simp [intOf]; omega
          · have HY := hd (selN_yes HW.out)
            go_wp2_with (at_builtin; refine appI _ HO3.out rfl _ _ rfl _ (by rfl) (by rfl) (by omega) hxs ?_; intro v' w4 ho1 hg1 _)
            go_roundw
            case rel => exact ⟨k + 1, by omega, by go_num, by rw [HY.out]; exact ho1, ext_appB HX3.out hg1 HO3.out⟩
            case measure => simp [intOf]; omega
        · have hkn : g.n ≤ (k : Int) := by have := HCN.out; omega
          obtain rfl : k = g.cs.length := by omega
          go_wp2
          go_ret2
          exact RetL2.mk HF2.out.symm (by rw [HF.out]; exact own_rebase HO.out (by omega)) HX.out.box
set_option maxRecDepth 100000 in
set_option maxHeartbeats 1600000 in
theorem i_WrongVertices (g : Chg) (gv : Value) (bs : Int) (w : World) (h : RdC w gv g) (_ : Bd_Charged g) (_ : I64_Charged g) (_ : I64 bs) :
    Calls Try.prog 34 #[gv, .int .i64 bs] w (RetL2 w (wrongL g bs) (wrongOk g bs)) := by
  have HG := hd h
  obtain ⟨A, c, A', c', rfl⟩ := h.form
  clear h
  obtain ⟨q, hq⟩ : ∃ q, goodC g = q := ⟨_, rfl⟩
  obtain ⟨r, hr⟩ : ∃ r, bitsB g.es.length bs = r := ⟨_, rfl⟩
  have HQ := hd hq
  have HR := hd hr
  have HI := hd (fun e => goodC_inv (hq.trans e) : q = true → _)
  clear hq
  go_enter Try.func34, Try.ntmps34
  go_wp2_with fail
  refine (i_IsCharged g _ _ (HG.out.ext (Ext.new _ _))).mono ?_
  rw [HQ.out]
  rintro e w1 ⟨rfl, hx1⟩
  have X1 := hd hx1
  clear hx1
  obtain ⟨k0, k1, k2⟩ := blk3 (X1.out.heap (blk_new (w := w) (.cells #[.int .i64 g.n, .slice A g.es.length c, .slice A' g.cs.length c'] 40) rfl))
  cases q
  · clear hr
    go_wp2
    go_ret2
    exact RetL2.mk (by unfold wrongOk; rw [HQ.out]; rfl) (by unfold wrongL wrongOk; rw [HQ.out]; exact ownI_nil _ _ _) X1.out.box
  · obtain ⟨n1, n2, hes, hcn, -, hc01, -⟩ := HI.out (by simp)
    have HC01 := hd hc01
    have HCN := hd hcn
    clear hc01 hcn HI
    go_wp2_with fail
    refine (i_edgeBits g bs _ _ _ _ _ HR.out hes).mono ?_
    rintro e w2 ⟨rfl, hx2⟩
    have X2 := hd (X1.out.trans hx2)
    clear k0 k1 k2 hx2
    obtain ⟨k0, k1, k2⟩ := blk3 (X2.out.heap (blk_new (w := w) (.cells #[.int .i64 g.n, .slice A g.es.length c, .slice A' g.cs.length c'] 40) rfl))
    cases r
    · clear hr
      go_wp2
      go_ret2
      exact RetL2.mk (by unfold wrongOk; rw [HQ.out, HR.out]; rfl) (by unfold wrongL wrongOk; rw [HQ.out, HR.out]; exact ownI_nil _ _ _) X2.out.box
    · obtain ⟨bn, rfl, hbn⟩ := bitsB_nat hr
      clear hr
      have hb12 : bn < 4096 := Nat.lt_of_lt_of_le hbn (Nat.le_trans (Nat.pow_le_pow_right (by decide) hes) (by decide))
      have HF : Hid (wrongL g (bn : Int) = selN (wrongB g bn) g.cs.length) := hd (by unfold wrongL wrongOk; rw [HQ.out, HR.out]; rfl)
      have HF2 : Hid (wrongOk g (bn : Int) = true) := hd (by unfold wrongOk; rw [HQ.out, HR.out]; rfl)
      clear hbn
      go_wp2
      go_loopw [19, 7, 6] (fun i _ v' wr => ∃ k : Nat, k ≤ g.cs.length ∧ i = .int .i64 k ∧ OwnI wr (w.heap.size + 1) 3 v' (selN (wrongB g bn) k) ∧ Ext (w.alloc (.cells #[.int .i64 g.n, .slice A g.es.length c, .slice A' g.cs.length c'] 40)) wr) (fun i _ _ _ => g.cs.length - (intOf i).toNat)
      case atStart => exact ⟨0, by omega, rfl, ownI_nil _ _ _, X2.out⟩
      case round =>
        clear X1 X2 k0 k1 k2
        obtain ⟨k, hk, rfl, ho, hx⟩ := hrel
        have HX := hd hx
        have HO := hd ho
        clear ho hx
        have hal := selN_len (wrongB g bn) k
        obtain ⟨k0, k1, k2⟩ := blk3 (HX.out.heap (blk_new (w := w) (.cells #[.int .i64 g.n, .slice A g.es.length c, .slice A' g.cs.length c'] 40) rfl))
        by_cases hlt : k < g.cs.length
        · have hkn : (k : Int) < g.n := by have := HCN.out; omega
          obtain ⟨q, hq⟩ : ∃ q, wrongB g bn k = q := ⟨_, rfl⟩
          have HW := hd hq
          clear hq
          go_wp2_with fail
          refine (i_wrong g _ k bn _ (HG.out.ext HX.out.box) hes hlt HC01 hb12).mono ?_
          rw [HW.out]
          rintro e w3 ⟨rfl, hx3⟩
          have HO3 := hd (HO.out.ext hx3)
          have HX3 := hd (HX.out.trans hx3)
          have hxs : w.heap.size + 1 ≤ w3.heap.size := by have := HX3.out.size; simpa using this
          clear hx3
          cases q
          · have HN := hd (selN_no HW.out)
            go_wp2
            go_roundw
            case rel => exact ⟨k + 1, by omega, by go_num, by rw [HN.out]; exact HO3.out, HX3.out⟩
            case measure => simp [intOf]; omega
          · have HY := hd (selN_yes HW.out)
            go_wp2_with (at_builtin; refine appI _ HO3.out rfl _ _ rfl _ (by rfl) (by rfl) (by omega) hxs ?_; intro v' w4 ho1 hg1 _)
            go_roundw
            case rel => exact ⟨k + 1, by omega, by go_num, by rw [HY.out]; exact ho1, ext_appB HX3.out hg1 HO3.out⟩
            case measure => simp [intOf]; omega
        · have hkn : g.n ≤ (k : Int) := by have := HCN.out; omega
          obtain rfl : k = g.cs.length := by omega
          go_wp2
          go_ret2
          exact RetL2.mk HF2.out.symm (by rw [HF.out]; exact own_rebase HO.out (by omega)) HX.out.box
end Go.Proofs.Ytpljmlkinjhigaa
