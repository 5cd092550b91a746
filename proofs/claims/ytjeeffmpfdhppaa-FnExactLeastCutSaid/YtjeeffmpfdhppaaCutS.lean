/-
  LeastCut of the reference's side. Condition: sizes up to 2^20.
-/
import Derived.Test.YtjeeffmpfdhppaaCutP
import Derived.Test.YtjeeffmpfdhppaaCut
namespace Go.Proofs.Ytjeeffmpfdhppaa
open Go.RowKit
def cutC (g : Chg) (s : List Int) : Nat := (cutL g s).length
def lcR (g : Chg) : CutS := if goodC g then lcF (cutC g) g.n.toNat (2 ^ g.n.toNat) else ([], 0, false)
theorem lcF_len (cst : List Int → Nat) (n : Nat) : ∀ c, (lcF cst n c).1.length ≤ n
  | 0 => by simp [lcF]
  | c + 1 => by
    rw [lcF, lcStep]
    split
    · exact vtxOf_len _ _
    · exact lcF_len cst n c
theorem lcR_bd (g : Chg) : Bd_IntS (lcR g).1 := by
  unfold Bd_IntS lcR
  split
  · rename_i h
    have := goodC_inv h
    have := lcF_len (cutC g) g.n.toNat (2 ^ g.n.toNat)
    omega
  · simp
def RetK (w : World) (n : Int) (xs : List Int) (b : Bool) : Ending → World → Prop := fun en w' => ∃ u, en = .returned (.tuple #[.int .i64 n, u, .bool b]) ∧ Own_IntS w' w.heap.size w'.heap.size u xs ∧ Ext w w'
theorem RetK.mk {w w' : World} {n n' : Int} {xs : List Int} {b b' : Bool} {v : Value} (hn : n' = n) (hb : b' = b) (h : OwnI w' w.heap.size 3 v xs) (hx : Ext w w') : RetK w n xs b (.returned (.tuple #[.int .i64 n', v, .bool b'])) w' := ⟨v, by rw [hn, hb], .mk h, hx⟩
theorem lcF_bd {cst : List Int → Nat} {n m : Nat} (h : ∀ s, cst s ≤ m) : ∀ c, (lcF cst n c).2.1 ≤ m
  | 0 => by simp [lcF]
  | c + 1 => by
    rw [lcF, lcStep]
    split
    · exact h _
    · exact lcF_bd h c
set_option maxRecDepth 100000 in
set_option maxHeartbeats 3200000 in
theorem s_LeastCut (g : Chg) (gv : Value) (w : World) (h : RdC w gv g) (b : Bd_Charged g) (_ : I64_Charged g) :
    Calls Try.prog 28 #[gv] w (RetK w ((lcR g).2.1 : Nat) (lcR g).1 (lcR g).2.2) := by
  have HB := hd b
  obtain ⟨A, c, A', c', rfl⟩ := h.form
  have HG := hd h
  clear h b
  obtain ⟨q, hq⟩ : ∃ q, goodC g = q := ⟨_, rfl⟩
  have HQ := hd hq
  have HI := hd (fun e => goodC_inv (hq.trans e) : q = true → _)
  clear hq
  cases q
  · have HN : Hid (lcR g = ([], 0, false)) := hd (by unfold lcR; rw [HQ.out]; rfl)
    go_enter Try.func28, Try.ntmps28
    go_wp2_with fail
    refine (s_l27Good g _ _ (HG.out.ext (Ext.new _ _))).mono ?_
    rw [HQ.out]
    rintro e w1 ⟨rfl, hx1⟩
    go_wp2
    go_ret3
    exact RetK.mk (by rw [HN.out]; rfl) (by rw [HN.out]) (by rw [HN.out]; exact ownI_emp' rfl hx1.box.size) (hx1.box.alloc _)
  · obtain ⟨hn1, hn8, hes, -⟩ := HI.out rfl
    have HN : Hid (lcR g = lcF (cutC g) g.n.toNat (2 ^ g.n.toNat)) := hd (by unfold lcR; rw [HQ.out, if_pos rfl])
    clear HI
    have HCC : Hid (∀ s, cutC g s = (cutL g s).length ∧ cutC g s ≤ 12) := hd fun s => ⟨rfl, Nat.le_trans (selN_len _ _) hes⟩
    obtain ⟨N, hN⟩ : ∃ N : Nat, g.n = N := ⟨g.n.toNat, by omega⟩
    rw [hN] at HG HN hn1 hn8 ⊢
    rw [Int.toNat_natCast] at HN
    have HNE := hd hN
    clear hN
    have hpm := wrap_pow (m := N) (by omega)
    have hM : 2 ^ N ≤ 2 ^ 8 := Nat.pow_le_pow_right (by decide) (by omega)
    generalize 2 ^ N = M at *
    have BX : Hid (∀ w' : World, Ext (w.alloc (.cells #[.int .i64 (N : Int), .slice A g.es.length c, .slice A' g.cs.length c'] 51)) w' → w'.cell? ⟨w.heap.size, 0, none⟩ = some (.int .i64 (N : Int)) ∧ w'.cell? ⟨w.heap.size, 1, none⟩ = some (.slice A g.es.length c) ∧ w'.cell? ⟨w.heap.size, 2, none⟩ = some (.slice A' g.cs.length c')) := hd fun w' hx => blk3 (hx.heap (blk_new (w := w) (.cells #[.int .i64 (N : Int), .slice A g.es.length c, .slice A' g.cs.length c'] 51) rfl))
    go_enter Try.func28, Try.ntmps28
    go_wp2_with fail
    refine (s_l27Good g _ _ (HG.out.ext (Ext.new _ _))).mono ?_
    rw [HQ.out]
    rintro e w1 ⟨rfl, hx1⟩
    have X1 := hd hx1
    have X2 := hd (hx1.alloc (.cells #[] 3))
    have O0 : Hid (OwnI (w1.alloc (.cells #[] 3)) w.heap.size 3 (.slice (some ⟨w1.heap.size, 0, none⟩) 0 0) []) := hd (ownI_emp' rfl hx1.box.size)
    clear hx1
    go_wp2
    go_loopw [8, 5, 6, 7] (fun x bv nv fv wr => ∃ k : Nat, k ≤ M ∧ x = .int .i64 (k : Int) ∧ OwnI wr w.heap.size 3 bv (lcF (cutC g) N k).1 ∧ nv = .int .i64 ((lcF (cutC g) N k).2.1 : Nat) ∧ fv = .bool (lcF (cutC g) N k).2.2 ∧ Ext (w.alloc (.cells #[.int .i64 (N : Int), .slice A g.es.length c, .slice A' g.cs.length c'] 51)) wr) (fun x _ _ _ _ => M - (intOf x).toNat)
    case atStart => exact ⟨0, by omega, rfl, O0.out, rfl, rfl, X2.out⟩
    case round =>
      obtain ⟨k, hk, rfl, ho, rfl, rfl, hx⟩ := hrel
      obtain ⟨k0, k1, k2⟩ := BX.out _ hx
      have HX := hd hx
      have HO := hd ho
      clear ho hx
      by_cases hlt : k < M
      · have HS : Hid (lcF (cutC g) N (k + 1) = lcStep (cutC g) N (lcF (cutC g) N k) (vtxOf k N)) := hd rfl
        have hbl := lcF_len (cutC g) N k
        have hfb := lcF_bd (cst := cutC g) (n := N) (fun s => (HCC.out s).2) k
        generalize lcF (cutC g) N k = st at *
        obtain ⟨best, few, fnd⟩ := st
        have HO : Hid (OwnI wr w.heap.size 3 _ best) := HO
        have hbl : best.length ≤ N := hbl
        have hfb : few ≤ 12 := hfb
        have E0 : Hid (OwnI (wr.alloc (.cells #[] 3)) wr.heap.size 3 (.slice (some ⟨wr.heap.size, 0, none⟩) 0 0) (vtxOf k 0)) := hd (ownI_emp' rfl (Nat.le_refl _))
        have EX : Hid (Ext wr (wr.alloc (.cells #[] 3))) := hd (Ext.new _ _)
        obtain ⟨wo, rfl⟩ : ∃ wo : World, wo = wr := ⟨_, rfl⟩
        go_wp2
        go_loopw [10, 9] (fun x pv wr => ∃ j : Nat, j ≤ N ∧ x = .int .i64 (j : Int) ∧ OwnI wr wo.heap.size 3 pv (vtxOf k j) ∧ Ext wo wr) (fun x _ _ => N - (intOf x).toNat)
        case atStart => exact ⟨0, by omega, rfl, E0.out, EX.out⟩
        case round =>
          obtain ⟨j, hj, rfl, ho2, hx2⟩ := hrel
          clear k0 k1 k2
          obtain ⟨k0, k1, k2⟩ := BX.out _ (HX.out.trans hx2)
          have HX2 := hd hx2
          have HO2 := hd ho2
          clear ho2 hx2
          have hsl := vtxOf_len k j
          by_cases hlt2 : j < N
          · have hsh := shr_and (b := k) (k := j) (by omega)
            have hbt := bitN_lt k j
            have HSO : Hid (vtxOf k (j + 1) = vtxOf k j ++ (if bitN k j = 1 then [(j : Int)] else [])) := hd rfl
            generalize bitN k j = t at *
            by_cases ht : t = 1
            · subst ht
              go_wp2_with (at_builtin; refine appI wr HO2.out rfl _ _ rfl _ (by rfl) (by rfl) (by omega) HX2.out.size ?_; intro v' w1 ho1 hg1 _)
              go_roundw
              case rel => exact ⟨j + 1, by omega, by go_num, by rw [HSO.out]; exact ho1, ext_app HX2.out hg1 (ownI_ge HO2.out)⟩
              case measure => simp [intOf]; omega
            · obtain rfl : t = 0 := by omega
              go_wp2
              go_roundw
              case rel => exact ⟨j + 1, by omega, by go_num, by rw [HSO.out]; simpa using HO2.out, HX2.out⟩
              case measure => simp [intOf]; omega
          · obtain rfl : j = N := by omega
            have HB2 : Hid (lcStep (cutC g) j (best, few, fnd) (vtxOf k j) = if midB j (vtxOf k j) && (!fnd || decide (cutC g (vtxOf k j) < few) || (decide (cutC g (vtxOf k j) = few) && befI (vtxOf k j) best)) then (vtxOf k j, cutC g (vtxOf k j), true) else (best, few, fnd)) := hd rfl
            generalize vtxOf k j = sm at *
            have HM : Hid (midB j sm = !(decide (3 * sm.length < j) || decide (2 * j < 3 * sm.length))) := hd rfl
            have HOB : Hid (OwnI wr w.heap.size 3 _ best) := hd (own_ext HO.out HX2.out)
            have XX := hd (HX.out.trans HX2.out)
            obtain ⟨A3, c3, rfl, h5, h6, -⟩ := HO2.out.rd.form
            by_cases hm1 : 3 * sm.length < j
            · have HMF : Hid (midB j sm = false) := hd (by rw [HM.out, decide_eq_true hm1]; rfl)
              have HN2 : Hid (lcF (cutC g) j (k + 1) = (best, few, fnd)) := hd (by rw [HS.out, HB2.out, HMF.out]; rfl)
              have hm1' : 3 * (sm.length : Int) < (j : Int) := by omega
              go_wp2
              go_roundw
              case rel => exact ⟨k + 1, by omega, by go_num, by rw [HN2.out]; exact HOB.out, by rw [HN2.out], by rw [HN2.out], XX.out⟩
              case measure => simp [intOf]; omega
            by_cases hm2 : 2 * j < 3 * sm.length
            · have HMF : Hid (midB j sm = false) := hd (by rw [HM.out, decide_eq_true hm2]; simp)
              have HN2 : Hid (lcF (cutC g) j (k + 1) = (best, few, fnd)) := hd (by rw [HS.out, HB2.out, HMF.out]; rfl)
              have hm1' : ¬ 3 * (sm.length : Int) < (j : Int) := by omega
              have hm2' : 2 * (j : Int) < 3 * (sm.length : Int) := by omega
              go_wp2
              go_roundw
              case rel => exact ⟨k + 1, by omega, by go_num, by rw [HN2.out]; exact HOB.out, by rw [HN2.out], by rw [HN2.out], XX.out⟩
              case measure => simp [intOf]; omega
            have HMT : Hid (midB j sm = true) := hd (by rw [HM.out, decide_eq_false hm1, decide_eq_false hm2]; rfl)
            have hm1' : ¬ 3 * (sm.length : Int) < (j : Int) := by omega
            have hm2' : ¬ 2 * (j : Int) < 3 * (sm.length : Int) := by omega
            go_wp2_with fail
            refine (s_l27Cut g _ sm _ _ (HG.out.ext XX.out.box) HB.out.1 HO2.out.rd (by omega)).mono ?_
            rintro e w2 ⟨u, rfl, hu, hx3⟩
            obtain ⟨A5, c5, rfl, -⟩ := hu.form
            have X3 := hd (XX.out.trans hx3)
            have O3 := hd (own_rebase (own_ext HO2.out hx3) HX.out.box.size : Own w2 w.heap.size 3 1 _ _ _)
            have OB3 : Hid (OwnI w2 w.heap.size 3 _ best) := hd (own_ext HOB.out hx3)
            have R3 := hd (HO2.out.rd.ext hx3)
            clear hx3 hu k0 k1 k2
            obtain ⟨k0, k1, k2⟩ := BX.out _ X3.out
            obtain ⟨hcc, hcb⟩ := HCC.out sm
            rw [← hcc] at *
            clear hcc
            generalize cutC g sm = cc at *
            clear hm1 hm2 hm1' hm2' HM
            cases fnd
            · have HN2 : Hid (lcF (cutC g) j (k + 1) = (sm, cc, true)) := hd (by rw [HS.out, HB2.out, HMT.out]; rfl)
              go_wp2
              go_roundw
              case rel => exact ⟨k + 1, by omega, by go_num, by rw [HN2.out]; exact O3.out, by rw [HN2.out], by rw [HN2.out], X3.out⟩
              case measure => simp [intOf]; omega
            by_cases hc1 : cc < few
            · have HN2 : Hid (lcF (cutC g) j (k + 1) = (sm, cc, true)) := hd (by rw [HS.out, HB2.out, HMT.out, decide_eq_true hc1]; rfl)
              have hc1' : (cc : Int) < (few : Int) := by omega
              go_wp2
              go_roundw
              case rel => exact ⟨k + 1, by omega, by go_num, by rw [HN2.out]; exact O3.out, by rw [HN2.out], by rw [HN2.out], X3.out⟩
              case measure => simp [intOf]; omega
            by_cases hc2 : cc = few
            · subst hc2
              obtain ⟨A4, c4, rfl, h7, h8, -⟩ := OB3.out.rd.form
              obtain ⟨t, ht⟩ : ∃ t, befI sm best = t := ⟨_, rfl⟩
              have HT := hd ht
              clear ht
              go_wp2_with fail
              refine (rtq (s_l27Before sm best _ _ _ R3.out OB3.out.rd (by omega) (by omega)) HT).mono ?_
              rintro e w3 ⟨rfl, n3, rfl⟩
              cases t
              · have HN2 : Hid (lcF (cutC g) j (k + 1) = (best, cc, true)) := hd (by rw [HS.out, HB2.out, HMT.out, HT.out, decide_eq_false hc1]; simp)
                go_wp2
                go_roundw
                case rel => exact ⟨k + 1, by omega, by go_num, by rw [HN2.out]; exact own_ext OB3.out (ext_drewN _ _), by rw [HN2.out], by rw [HN2.out], X3.out.trans (ext_drewN _ _)⟩
                case measure => simp [intOf]; omega
              · have HN2 : Hid (lcF (cutC g) j (k + 1) = (sm, cc, true)) := hd (by rw [HS.out, HB2.out, HMT.out, HT.out]; simp)
                go_wp2
                go_roundw
                case rel => exact ⟨k + 1, by omega, by go_num, by rw [HN2.out]; exact own_ext O3.out (ext_drewN _ _), by rw [HN2.out], by rw [HN2.out], X3.out.trans (ext_drewN _ _)⟩
                case measure => simp [intOf]; omega
            · have HN2 : Hid (lcF (cutC g) j (k + 1) = (best, few, true)) := hd (by rw [HS.out, HB2.out, HMT.out, decide_eq_false hc1, decide_eq_false hc2]; rfl)
              have hc1' : ¬ (cc : Int) < (few : Int) := by omega
              have hc2' : ¬ (cc : Int) = (few : Int) := by omega
              go_wp2
              go_roundw
              case rel => exact ⟨k + 1, by omega, by go_num, by rw [HN2.out]; exact OB3.out, by rw [HN2.out], by rw [HN2.out], X3.out⟩
              case measure => simp [intOf]; omega
      · obtain rfl : k = M := by omega
        go_wp2
        go_ret3
        exact RetK.mk (by rw [HN.out]) (by rw [HN.out]) (by rw [HN.out]; exact HO.out) HX.out.box
end Go.Proofs.Ytjeeffmpfdhppaa
