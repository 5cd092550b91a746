/-
  The pigeons' formulas of the spec's side: l17Cnf, l28Functional. Condition: 1 to 3 holes.
-/
import Derived.Test.YtkcljofjkmhopaaFuncT
namespace Go.Proofs.Ytkcljofjkmhopaa
open Go.RowKit
theorem ownSS_emp {W : World} {b lo hi : Nat} {eI : TypeId} (hb : W.heap.size = b) (hl : lo ≤ b) (hh : b < hi) : OwnSS (W.alloc (.cells #[] 23)) lo hi 23 eI (.slice (some ⟨b, 0, none⟩) 0 0) [] := by
  subst hb
  exact ⟨[], own_lit W lo 23 1 #[] 0 hl (Nat.zero_le _) rfl, (fun g hg => by obtain rfl : W.heap.size = g := Option.some.inj hg; exact hh), rfl, (fun i u xs h => by simp at h), (fun i j u u' g _ h => by simp at h)⟩
theorem ownI_pair (W : World) {base : Nat} (x y : Int) (hb : base ≤ W.heap.size) : OwnI (W.alloc (.cells #[.int .i64 x, .int .i64 y] 3)) base 3 (.slice (some ⟨W.heap.size, 0, none⟩) 2 2) [x, y] :=
  own_lit W base 3 1 #[.int .i64 x, .int .i64 y] 2 hb (by unfold maxLen; omega) rfl
theorem rd_oneN (w : World) (u : Value) (e : TypeId) {nb : Nat} (hnb : w.heap.size = nb) : Rd (w.alloc (.cells #[u] e)) 1 (.slice (some ⟨nb, 0, none⟩) 1 1) 1 [u] := by
  subst hnb
  exact rd_oneV w u e
theorem pv2_pvar (m k h : Nat) : pvar m ((k : Int) + 1) ((h : Int) + 1) = pv2 m k h := by
  unfold pvar pv2
  rw [show (k : Int) + 1 - 1 = (k : Int) from by omega]
theorem cnf17_len {m : Nat} (hm : 1 ≤ m ∧ m ≤ 3) : (clsA m (m + 1)).length ≤ 4 := by simp [clsA]; omega
set_option maxRecDepth 100000 in
set_option maxHeartbeats 6400000 in
theorem s_l17Cnf (m : Nat) (hm : 1 ≤ m ∧ m ≤ 3) (w : World) : Calls Try.prog 120 #[.int .i64 m] w (fun e w' => ∃ ov, e = .returned (.agg #[.int .i64 (((m : Int) + 1) * (m : Int)), ov]) ∧ OwnSS w' (w.heap.size + 1) w'.heap.size 23 3 ov (cnf17 m).cs ∧ Ext w w') := by
  have HCN : Hid ((cnf17 m).cs = clsA m (m + 1) ++ clsR m m) := hd rfl
  have HVA : Hid (∀ (a b : Int) (w : World), 1 ≤ a ∧ a ≤ 1000 → 0 ≤ b ∧ b ≤ 1000 → Calls Try.prog 77 #[.int .i64 m, .int .i64 a, .int .i64 b] w (Ret w (.int .i64 (pvar m a b)))) := hd fun a b w ha hb => s_l17Var m a b w (by omega) ha hb
  obtain ⟨hm1, hm2⟩ := hm
  have hvm := pv2_mul (m := m) (k := m + 1) hm2 (by omega)
  rw [show ((m + 1 : Nat) : Int) = (m : Int) + 1 from by omega] at hvm
  have hcomm : (m : Int) * ((m : Int) + 1) = ((m : Int) + 1) * (m : Int) := Int.mul_comm _ _
  generalize hV : ((m : Int) + 1) * (m : Int) = V at *
  obtain ⟨w0, hw0⟩ : ∃ w0 : World, w0 = w.alloc (.cells #[.int .i64 0, .slice none 0 0] 41) := ⟨_, rfl⟩
  have hs0 : w0.heap.size = w.heap.size + 1 := by rw [hw0]; simp
  have HR0 : Hid (w0.heap[w.heap.size]? = some (.cells #[.int .i64 0, .slice none 0 0] 41)) := hd (by rw [hw0]; exact blk_new _ rfl)
  have HX0 : Hid (Ext w w0) := hd (by rw [hw0]; exact Ext.new _ _)
  have HW0 := hd hw0
  obtain ⟨bx, hbx⟩ : ∃ bx, w.heap.size + 1 + 1 = bx := ⟨_, rfl⟩
  have F0 : Hid (FamB w0 ((w0.alloc (.cells #[] 23)).alloc (.cells #[.int .i64 V, .slice (some ⟨w.heap.size + 1, 0, none⟩) 0 0] 41)) bx 41 V (w.heap.size + 1) (.slice (some ⟨w.heap.size + 1, 0, none⟩) 0 0) (clsA m 0)) :=
    hd ⟨blk_new _ (by simp; omega), (ownSS_emp (hi := w0.heap.size + 2) hs0 (Nat.le_refl _) (by omega)).ext (Ext.new _ _) |>.hi_le (by simp), (Ext.new _ _).alloc _, by omega, by omega, by simp; omega⟩
  clear hw0
  go_enter Try.func120, Try.ntmps120
  go_wp2_with fail
  rw [← HW0.out]
  go_wp2
  try rw [hbx]
  have HBX := hd hbx
  clear hbx
  go_loopw [4] (fun x wr => ∃ k : Nat, k ≤ m + 1 ∧ x = .int .i64 ((k : Int) + 1) ∧ ∃ ov, FamB w0 wr bx 41 V (w.heap.size + 1) ov (clsA m k)) (fun x _ => m + 2 - (intOf x).toNat)
  case atStart => exact ⟨0, by omega, rfl, _, F0.out⟩
  case round =>
    obtain ⟨k, hk, rfl, ov, hF⟩ := hrel
    have HF := hd hF
    clear hF
    by_cases hlt : k < m + 1
    · have HS : Hid (clsA m (k + 1) = clsA m k ++ [rowC m k m]) := hd (clsA_succ m k)
      have hkl : (k : Int) + 1 ≤ (m : Int) + 1 := by omega
      obtain ⟨wo, rfl⟩ : ∃ wo : World, wo = wr := ⟨_, rfl⟩
      go_wp2
      go_loopw [6, 5] (fun x pv wr => ∃ h : Nat, h ≤ m ∧ x = .int .i64 ((h : Int) + 1) ∧ OwnI wr wo.heap.size 3 pv (rowC m k h) ∧ Ext wo wr) (fun x _ _ => m + 1 - (intOf x).toNat)
      case atStart => exact ⟨0, by omega, rfl, ownI_emp' rfl (Nat.le_refl _), Ext.new _ _⟩
      case round =>
        obtain ⟨h, hh, rfl, ho, hx⟩ := hrel
        have HX := hd hx
        have HO := hd ho
        clear ho hx
        have hrl : (rowC m k h).length = h := by simp [rowC]
        by_cases hlt2 : h < m
        · have HS2 : Hid (rowC m k (h + 1) = rowC m k h ++ [pvar m ((k : Int) + 1) ((h : Int) + 1)]) := hd (by rw [pv2_pvar]; exact rowC_succ m k h)
          have hle : (h : Int) + 1 ≤ (m : Int) := by omega
          have HVC := hd (HVA.out ((k : Int) + 1) ((h : Int) + 1) wr (by omega) (by omega))
          generalize pvar m ((k : Int) + 1) ((h : Int) + 1) = z at *
          go_wp2_with fail
          refine HVC.out.mono ?_
          rintro e1 w1 ⟨rfl, rfl⟩
          go_wp2_with (at_builtin; refine appI wr HO.out rfl _ _ rfl _ (by rfl) (by rfl) (by omega) HX.out.size ?_; intro v' w1 ho1 hg1 _)
          go_roundw
          case rel => exact ⟨h + 1, by omega, by go_num, by rw [HS2.out]; exact ho1, ext_app HX.out hg1 (ownI_ge HO.out)⟩
          case measure => simp [intOf]; omega
        · obtain rfl : h = m := by omega
          have hcl : (clsA h k).length ≤ 1048576 := by simp [clsA]; omega
          obtain ⟨c0, c1⟩ := blk2 (HX.out.heap HF.out.blk)
          have hnle : ¬ ((h : Int) + 1 ≤ (h : Int)) := by omega
          clear hrl
          obtain ⟨A7, c7, rfl, hO7⟩ := HO.out.form
          go_wp2_with (at_builtin; refine appL wr (HF.out.own.ext HX.out) hO7.out HF.out.low HX.out.size rfl _ _ rfl (by rfl) (by rfl) (by omega) ?_
                       intro v' w2 ho2 hg2
                       obtain ⟨A5, c5, rfl, h51, h52⟩ := OwnSS.form ho2
                       have hB2 := HF.out.blk1 (by decide) (HX.out.alloc _) hg2
                       obtain ⟨q0, q1⟩ := blk2 hB2
                       obtain ⟨q2, q3⟩ := blk2f hB2
                       have q4 := blk_lt hB2
                       have HP := HF.out.put (by decide) (by decide) (HX.out.alloc _) ho2 hg2
                       generalize hLL : (clsA h k ++ [rowC h k h]).length = LL at *)
          go_roundw
          case rel => exact ⟨k + 1, by omega, by go_num, _, by rw [HS.out]; exact HP⟩
          case measure => simp [intOf]; omega
    · have hkm : k = m + 1 := by omega
      have HF : Hid (FamB w0 wr bx 41 V (w.heap.size + 1) ov (clsA m (m + 1))) := hd (by have := HF.out; rw [hkm] at this; exact this)
      have hkl : ¬ (k : Int) + 1 ≤ (m : Int) + 1 := by omega
      clear hkm
      have hLA : (clsA m (m + 1)).length = m + 1 := by simp [clsA]
      have F1 : Hid (FamB w0 wr bx 41 V (w.heap.size + 1) ov (clsA m (m + 1) ++ clsR m 0)) := hd (by rw [show clsR m 0 = [] from rfl, List.append_nil]; exact HF.out)
      obtain ⟨wo, rfl⟩ : ∃ wo : World, wo = wr := ⟨_, rfl⟩
      go_wp2
      go_loopw [7] (fun x wr => ∃ j : Nat, j ≤ m ∧ x = .int .i64 ((j : Int) + 1) ∧ ∃ ov, FamB w0 wr bx 41 V (w.heap.size + 1) ov (clsA m (m + 1) ++ clsR m j)) (fun x _ => m + 1 - (intOf x).toNat)
      case atStart => exact ⟨0, by omega, rfl, _, F1.out⟩
      case round =>
        obtain ⟨j, hj, rfl, ov, hF⟩ := hrel
        have HF3 := hd hF
        clear hF HF F1
        have hLR := clsR_len m j
        have hLR2 : j * ((m + 1) * m) ≤ 3 * (4 * 3) := Nat.mul_le_mul (by omega) (Nat.mul_le_mul (by omega) hm2)
        by_cases hltj : j < m
        · have hle : (j : Int) + 1 ≤ (m : Int) := by omega
          have HSR : Hid (clsR m (j + 1) = clsR m j ++ clsQ m j (m + 1)) := hd (clsR_succ m j)
          have F4 : Hid (FamB w0 wr bx 41 V (w.heap.size + 1) ov (clsA m (m + 1) ++ clsR m j ++ clsQ m j 0)) := hd (by rw [show clsQ m j 0 = [] from rfl, List.append_nil]; exact HF3.out)
          obtain ⟨wo, rfl⟩ : ∃ wo : World, wo = wr := ⟨_, rfl⟩
          go_wp2
          go_loopw [8] (fun x wr => ∃ i : Nat, i ≤ m + 1 ∧ x = .int .i64 ((i : Int) + 1) ∧ ∃ ov, FamB w0 wr bx 41 V (w.heap.size + 1) ov (clsA m (m + 1) ++ clsR m j ++ clsQ m j i)) (fun x _ => m + 2 - (intOf x).toNat)
          case atStart => exact ⟨0, by omega, rfl, _, F4.out⟩
          case round =>
            obtain ⟨i, hi, rfl, ov, hF⟩ := hrel
            have HF4 := hd hF
            clear hF F4 HF3
            have hLQ := clsQ_len m j i
            have hLQ2 : i * m ≤ 4 * 3 := Nat.mul_le_mul (by omega) hm2
            by_cases hlti : i < m + 1
            · have hil : (i : Int) + 1 ≤ (m : Int) + 1 := by omega
              have hil2 : i ≤ m := by omega
              have HSQ : Hid (clsQ m j (i + 1) = clsQ m j i ++ clsP m j i (m - i)) := hd (clsQ_succ m j i)
              have F5 : Hid (FamB w0 wr bx 41 V (w.heap.size + 1) ov (clsA m (m + 1) ++ clsR m j ++ clsQ m j i ++ clsP m j i (i + 1 - (i + 1)))) := hd (by rw [Nat.sub_self, show clsP m j i 0 = [] from rfl, List.append_nil]; exact HF4.out)
              obtain ⟨wo, rfl⟩ : ∃ wo : World, wo = wr := ⟨_, rfl⟩
              go_wp2
              go_loopw [9] (fun x wr => ∃ X : Nat, i < X ∧ X ≤ m + 1 ∧ x = .int .i64 ((X : Int) + 1) ∧ ∃ ov, FamB w0 wr bx 41 V (w.heap.size + 1) ov (clsA m (m + 1) ++ clsR m j ++ clsQ m j i ++ clsP m j i (X - (i + 1)))) (fun x _ => m + 2 - (intOf x).toNat)
              case atStart => exact ⟨i + 1, by omega, by omega, by go_num, _, F5.out⟩
              case round =>
                obtain ⟨X, hX1, hX2, rfl, ov, hF⟩ := hrel
                have HF5 := hd hF
                clear hF F5 HF4
                by_cases hltX : X < m + 1
                · have hXl : (X : Int) + 1 ≤ (m : Int) + 1 := by omega
                  have HSP : Hid (clsP m j i (X + 1 - (i + 1)) = clsP m j i (X - (i + 1)) ++ [pairC m j i X]) := hd (by
                    obtain ⟨t, rfl⟩ : ∃ t, X = i + 1 + t := ⟨X - (i + 1), by omega⟩
                    rw [show i + 1 + t + 1 - (i + 1) = t + 1 from by omega, show i + 1 + t - (i + 1) = t from by omega]
                    exact clsP_succ m j i t)
                  have hLP : (clsP m j i (X - (i + 1))).length = X - (i + 1) := clsP_len _ _ _ _
                  have hln : (clsA m (m + 1) ++ clsR m j ++ clsQ m j i ++ clsP m j i (X - (i + 1))).length ≤ 1048576 := by
                    simp only [List.length_append, hLA, hLP]; omega
                  have HPC : Hid (pairC m j i X = [-(pvar m ((i : Int) + 1) ((j : Int) + 1)), -(pvar m ((X : Int) + 1) ((j : Int) + 1))]) := hd (by rw [pv2_pvar, pv2_pvar]; rfl)
                  have hA := hd (fun w => HVA.out ((i : Int) + 1) ((j : Int) + 1) w (by omega) (by omega))
                  have hB := hd (fun w => HVA.out ((X : Int) + 1) ((j : Int) + 1) w (by omega) (by omega))
                  have ha : 0 ≤ pvar m ((i : Int) + 1) ((j : Int) + 1) ∧ pvar m ((i : Int) + 1) ((j : Int) + 1) ≤ 1000 := by
                    have := pv2_bd (m := m) (k := i) (h := j) hm2 (by omega) (by omega); rw [pv2_pvar]; omega
                  have hb : 0 ≤ pvar m ((X : Int) + 1) ((j : Int) + 1) ∧ pvar m ((X : Int) + 1) ((j : Int) + 1) ≤ 1000 := by
                    have := pv2_bd (m := m) (k := X) (h := j) hm2 (by omega) (by omega); rw [pv2_pvar]; omega
                  generalize pvar m ((i : Int) + 1) ((j : Int) + 1) = a at *
                  generalize pvar m ((X : Int) + 1) ((j : Int) + 1) = b at *
                  have hw1 : IntKind.i64.wrap (-a) = -a := IntWalk.i64_in _ (by omega)
                  have hw2 : IntKind.i64.wrap (-b) = -b := IntWalk.i64_in _ (by omega)
                  obtain ⟨c0, c1⟩ := blk2 HF5.out.blk
                  have hbl := blk_lt HF5.out.blk
                  have hx0 := HF5.out.ext
                  obtain ⟨wo, rfl⟩ : ∃ wo : World, wo = wr := ⟨_, rfl⟩
                  go_wp2_with fail
                  go_region_law (first
                    | (go_simp; go_at_call 77; (with_reducible refine (hA.out _).mono ?_); rintro e w1 ⟨rfl, rfl⟩)
                    | (go_simp; go_at_call 77; (with_reducible refine (hB.out _).mono ?_); rintro e w1 ⟨rfl, rfl⟩)
                    | (refine stepL _ (v := ov) (src := .slice (some ⟨wo.heap.size + 1, 0, none⟩) 1 1) (u := .slice (some ⟨_, 0, none⟩) 2 2) (ys := [-a, -b]) (lo := w.heap.size + 1) (hi := wo.heap.size) (HF5.out.own.ext (by repeat (first | assumption | exact Ext.refl _ | apply Ext.drew | refine Ext.alloc ?_ _))) (own_ext (ownI_pair _ (-a) (-b) (by simp)) ((Ext.new _ _).drew)) HF5.out.low (by simp; omega) ((rd_oneN _ _ _ (by simp)).drew) rfl (.tmp 61) (.tmp 73) rfl (by rfl) (by rfl) (by omega) ?_
                       intro v' w2 ho2 hg2
                       obtain ⟨A5, c5, rfl, h51, h52⟩ := OwnSS.form ho2
                       have hB2 := HF5.out.blk1 (by decide) (by repeat (first | assumption | exact Ext.refl _ | apply Ext.drew | refine Ext.alloc ?_ _)) hg2
                       obtain ⟨q0, q1⟩ := blk2 hB2
                       obtain ⟨q2, q3⟩ := blk2f hB2
                       have q4 := blk_lt hB2
                       have HP := HF5.out.put (by decide) (by decide) (by repeat (first | assumption | exact Ext.refl _ | apply Ext.drew | refine Ext.alloc ?_ _)) ho2 hg2
                       have X9 := HP.ext
                       have X8 : Ext w0 w2 := ext_appS (hx0.trans (by repeat (first | assumption | exact Ext.refl _ | apply Ext.drew | refine Ext.alloc ?_ _))) hg2 HF5.out.own_low
                       generalize hLL : (clsA m (m + 1) ++ clsR m j ++ clsQ m j i ++ clsP m j i (X - (i + 1)) ++ [[-a, -b]]).length = LL at *))
                  all_goals
                    go_wp2
                    go_roundw
                    case rel => exact ⟨X + 1, by omega, by omega, by go_num, _, by rw [HSP.out, HPC.out, ← List.append_assoc]; exact HP⟩
                    case measure => simp [intOf]; omega
                · obtain rfl : X = m + 1 := by omega
                  go_wp2
                  go_roundw
                  case rel => exact ⟨i + 1, by omega, by go_num, ov, by rw [HSQ.out, ← List.append_assoc]; have := HF5.out; rw [show m + 1 - (i + 1) = m - i from by omega] at this; exact this⟩
                  case measure => simp [intOf]; omega
            · obtain rfl : i = m + 1 := by omega
              go_wp2
              go_roundw
              case rel => exact ⟨j + 1, by omega, by go_num, ov, by rw [HSR.out, ← List.append_assoc]; exact HF4.out⟩
              case measure => simp [intOf]; omega
        · obtain rfl : j = m := by omega
          have XF := hd HF3.out.ext
          have B0 := hd (XF.out.heap HR0.out)
          obtain ⟨A9, c9, rfl, h91, h92⟩ := HF3.out.own.form
          obtain ⟨k0, k1⟩ := blk2 B0.out
          obtain ⟨k2, k3⟩ := blk2f B0.out
          have k4 := blk_lt B0.out
          obtain ⟨m0, m1⟩ := blk2 HF3.out.blk
          have OW := hd HF3.out.own
          have X3 := hd (HX0.out.trans XF.out)
          generalize hL : (clsA j (j + 1) ++ clsR j j).length = L at *
          have HC := hd (blk2_set (x' := .int .i64 V) (y' := .slice A9 L c9) B0.out)
          have hg3 := grown_set (grown_set (grown_refl wr (some w.heap.size)) 0 (.int .i64 V)) 1 (.slice A9 L c9)
          have OW2 := hd ((OW.out.box B0.out (by decide) (by decide) hg3).hi_le hg3.size)
          have X4 := hd (ext_set (i := 1) (ext_set (i := 0) X3.out (Nat.le_refl _) (.int .i64 V)) (Nat.le_refl _) (.slice A9 L c9))
          clear hg3
          go_wp2
          obtain ⟨p0, p1⟩ := blk2 HC.out
          exact bodyPost_ret (v := .agg #[.int .i64 V, .slice A9 L c9]) (by simp [results, Try.results120, go_sem, p0, p1]) rfl ⟨_, rfl, by rw [HCN.out]; exact OW2.out, X4.out⟩
set_option maxRecDepth 100000 in
set_option maxHeartbeats 6400000 in
theorem s_l28Functional (m : Nat) (hm : 1 ≤ m ∧ m ≤ 3) (w : World) : Calls Try.prog 93 #[.int .i64 m] w (fun e w' => ∃ ov, e = .returned (.agg #[.int .i64 (((m : Int) + 1) * (m : Int)), ov]) ∧ OwnSS w' (w.heap.size + 1) w'.heap.size 23 3 ov (func17 m).cs ∧ Ext w w') := by
  have HPH : Hid (∀ w, Calls Try.prog 120 #[.int .i64 m] w _) := hd fun w => s_l17Cnf m hm w
  have HLC : Hid ((cnf17 m).cs.length ≤ 100) := hd (by
    have key : ∀ m ∈ [1, 2, 3], (cnf17 m).cs.length ≤ 100 := by decide
    exact key m (by simp; omega))
  have HFC : Hid ((func17 m).cs = (cnf17 m).cs ++ fR m (m + 1)) := hd rfl
  have HPAIR : Hid (∀ i j x, i ≤ m → j < x → x < m → _) := hd fun i j x h1 h2 h3 => fPair_ok (m := m) (i := i) (j := j) (x := x) hm h1 h2 h3
  have HPV : Hid (∀ (a b : Int) (w : World), 1 ≤ a ∧ a ≤ 1000 → 0 ≤ b ∧ b ≤ 1000 → Calls Try.prog 77 #[.int .i64 m, .int .i64 a, .int .i64 b] w (Ret w (.int .i64 (pvar m a b)))) := hd fun a b w ha hb => s_l17Var m a b w (by omega) ha hb
  obtain ⟨hm1, hm2⟩ := hm
  generalize hV : ((m : Int) + 1) * (m : Int) = V at *
  have hs := hd (blk_new (w := w) (.cells #[.int .i64 0, .slice none 0 0] 41) rfl)
  obtain ⟨w0, hw0⟩ : ∃ w0 : World, w0 = w.alloc (.cells #[.int .i64 0, .slice none 0 0] 41) := ⟨_, rfl⟩
  have hs0 : w0.heap.size = w.heap.size + 1 := by rw [hw0]; simp
  have HX0 : Hid (Ext w w0) := hd (by rw [hw0]; exact Ext.new _ _)
  have HR0 : Hid (w0.heap[w.heap.size]? = some (.cells #[.int .i64 0, .slice none 0 0] 41)) := hd (by rw [hw0]; exact hs.out)
  have HW0 := hd hw0
  clear hw0 hs
  go_enter Try.func93, Try.ntmps93
  go_wp2_with fail
  rw [← HW0.out]
  refine (HPH.out _).mono ?_
  rintro e w3 ⟨ov, rfl, ho, hx⟩
  obtain ⟨A, c, rfl, h1, h2⟩ := ho.form
  have F0 : Hid (FamB w0 (w3.alloc (.cells #[.int .i64 V, .slice A (cnf17 m).cs.length c] 41)) w3.heap.size 41 V w0.heap.size (.slice A (cnf17 m).cs.length c) ((cnf17 m).cs ++ fR m 0)) :=
    hd ⟨blk_new _ rfl, by rw [show fR m 0 = [] from rfl, List.append_nil]; exact ((ho.ext (Ext.new _ _)).hi_le (by simp)).lo_le (by omega), hx.alloc _, hx.size, Nat.le_refl _, Nat.le_trans hx.size (by simp)⟩
  have hbx : w0.heap.size ≤ w3.heap.size := hx.size
  clear ho hx
  have hlc := HLC.out
  generalize hbb : w3.heap.size = bx at *
  go_wp2
  go_loopw [4] (fun x wr => ∃ i : Nat, i ≤ m + 1 ∧ x = .int .i64 ((i : Int) + 1) ∧ ∃ ov, FamB w0 wr bx 41 V w0.heap.size ov ((cnf17 m).cs ++ fR m i)) (fun x _ => m + 2 - (intOf x).toNat)
  case atStart => exact ⟨0, by omega, rfl, _, F0.out⟩
  case round =>
    obtain ⟨i, hi, rfl, ov, hF⟩ := hrel
    have HF3 := hd hF
    clear hF F0
    have hLR := fR_len m i
    have hLR2 : i * (m * m) ≤ 4 * (3 * 3) := Nat.mul_le_mul (by omega) (Nat.mul_le_mul (by omega) hm2)
    by_cases hlti : i < m + 1
    · have hil : (i : Int) + 1 ≤ (m : Int) + 1 := by omega
      have hil2 : i ≤ m := by omega
      have HSR : Hid (fR m (i + 1) = fR m i ++ fQ m i m) := hd (fR_succ m i)
      have F4 : Hid (FamB w0 wr bx 41 V w0.heap.size ov ((cnf17 m).cs ++ fR m i ++ fQ m i 0)) := hd (by rw [show fQ m i 0 = [] from rfl, List.append_nil]; exact HF3.out)
      obtain ⟨wo, rfl⟩ : ∃ wo : World, wo = wr := ⟨_, rfl⟩
      go_wp2
      go_loopw [5] (fun x wr => ∃ j : Nat, j ≤ m ∧ x = .int .i64 ((j : Int) + 1) ∧ ∃ ov, FamB w0 wr bx 41 V w0.heap.size ov ((cnf17 m).cs ++ fR m i ++ fQ m i j)) (fun x _ => m + 1 - (intOf x).toNat)
      case atStart => exact ⟨0, by omega, rfl, _, F4.out⟩
      case round =>
        obtain ⟨j, hj, rfl, ov, hF⟩ := hrel
        have HF4 := hd hF
        clear hF F4 HF3
        have hLQ := fQ_len m i j
        have hLQ2 : j * m ≤ 3 * 3 := Nat.mul_le_mul (by omega) hm2
        by_cases hltj : j < m
        · have hjl : (j : Int) + 1 ≤ (m : Int) := by omega
          have HSQ : Hid (fQ m i (j + 1) = fQ m i j ++ fP m i j (m - (j + 1))) := hd (fQ_succ m i j)
          have F5 : Hid (FamB w0 wr bx 41 V w0.heap.size ov ((cnf17 m).cs ++ fR m i ++ fQ m i j ++ fP m i j (j + 1 - (j + 1)))) := hd (by rw [Nat.sub_self, show fP m i j 0 = [] from rfl, List.append_nil]; exact HF4.out)
          obtain ⟨wo, rfl⟩ : ∃ wo : World, wo = wr := ⟨_, rfl⟩
          go_wp2
          go_loopw [6] (fun x wr => ∃ X : Nat, j < X ∧ X ≤ m ∧ x = .int .i64 ((X : Int) + 1) ∧ ∃ ov, FamB w0 wr bx 41 V w0.heap.size ov ((cnf17 m).cs ++ fR m i ++ fQ m i j ++ fP m i j (X - (j + 1)))) (fun x _ => m + 1 - (intOf x).toNat)
          case atStart => exact ⟨j + 1, by omega, by omega, by go_num, _, F5.out⟩
          case round =>
            obtain ⟨X, hX1, hX2, rfl, ov, hF⟩ := hrel
            have HF5 := hd hF
            clear hF F5 HF4
            by_cases hltX : X < m
            · have hXl : (X : Int) + 1 ≤ (m : Int) := by omega
              have HSP : Hid (fP m i j (X + 1 - (j + 1)) = fP m i j (X - (j + 1)) ++ [fPair m i j X]) := hd (by
                obtain ⟨t, rfl⟩ : ∃ t, X = j + 1 + t := ⟨X - (j + 1), by omega⟩
                rw [show j + 1 + t + 1 - (j + 1) = t + 1 from by omega, show j + 1 + t - (j + 1) = t from by omega]
                exact fP_succ m i j t)
              have hLP : (fP m i j (X - (j + 1))).length = X - (j + 1) := fP_len _ _ _ _
              have HPC : Hid (fPair m i j X = [-(pvar m ((i : Int) + 1) ((j : Int) + 1)), -(pvar m ((i : Int) + 1) ((X : Int) + 1))]) := hd rfl
              have hln : ((cnf17 m).cs ++ fR m i ++ fQ m i j ++ fP m i j (X - (j + 1))).length ≤ 1048576 := by
                simp only [List.length_append, hLP]; omega
              have hA := hd (fun w => HPV.out ((i : Int) + 1) ((j : Int) + 1) w (by omega) (by omega))
              have hB := hd (fun w => HPV.out ((i : Int) + 1) ((X : Int) + 1) w (by omega) (by omega))
              have ha : 0 ≤ pvar m ((i : Int) + 1) ((j : Int) + 1) ∧ pvar m ((i : Int) + 1) ((j : Int) + 1) ≤ 1000 := by
                have := pv2_bd (m := m) (k := i) (h := j) hm2 (by omega) (by omega); rw [pv2_pvar]; omega
              have hb : 0 ≤ pvar m ((i : Int) + 1) ((X : Int) + 1) ∧ pvar m ((i : Int) + 1) ((X : Int) + 1) ≤ 1000 := by
                have := pv2_bd (m := m) (k := i) (h := X) hm2 (by omega) (by omega); rw [pv2_pvar]; omega
              generalize pvar m ((i : Int) + 1) ((j : Int) + 1) = a at *
              generalize pvar m ((i : Int) + 1) ((X : Int) + 1) = b at *
              have hw1 : IntKind.i64.wrap (-a) = -a := IntWalk.i64_in _ (by omega)
              have hw2 : IntKind.i64.wrap (-b) = -b := IntWalk.i64_in _ (by omega)
              obtain ⟨c0, c1⟩ := blk2 HF5.out.blk
              have hbl := blk_lt HF5.out.blk
              have hx0 := HF5.out.ext
              obtain ⟨wo, rfl⟩ : ∃ wo : World, wo = wr := ⟨_, rfl⟩
              go_wp2_with fail
              go_region_law (first
                | (go_simp; go_at_call 77; (with_reducible refine (hA.out _).mono ?_); rintro e w1 ⟨rfl, rfl⟩)
                | (go_simp; go_at_call 77; (with_reducible refine (hB.out _).mono ?_); rintro e w1 ⟨rfl, rfl⟩)
                | (refine stepL _ (v := ov) (src := .slice (some ⟨wo.heap.size + 1, 0, none⟩) 1 1) (u := .slice (some ⟨_, 0, none⟩) 2 2) (ys := [-a, -b]) (lo := w0.heap.size) (hi := wo.heap.size) (HF5.out.own.ext (by repeat (first | assumption | exact Ext.refl _ | apply Ext.drew | refine Ext.alloc ?_ _))) (own_ext (ownI_pair _ (-a) (-b) (by simp)) ((Ext.new _ _).drew)) HF5.out.low (by simp; omega) ((rd_oneN _ _ _ (by simp)).drew) rfl (.tmp 28) (.tmp 40) rfl (by rfl) (by rfl) (by omega) ?_
                   intro v' w2 ho2 hg2
                   obtain ⟨A5, c5, rfl, h51, h52⟩ := OwnSS.form ho2
                   have hB2 := HF5.out.blk1 (by decide) (by repeat (first | assumption | exact Ext.refl _ | apply Ext.drew | refine Ext.alloc ?_ _)) hg2
                   obtain ⟨q0, q1⟩ := blk2 hB2
                   obtain ⟨q2, q3⟩ := blk2f hB2
                   have q4 := blk_lt hB2
                   have HP := HF5.out.put (by decide) (by decide) (by repeat (first | assumption | exact Ext.refl _ | apply Ext.drew | refine Ext.alloc ?_ _)) ho2 hg2
                   have X9 := HP.ext
                   have X8 : Ext w0 w2 := ext_appS (hx0.trans (by repeat (first | assumption | exact Ext.refl _ | apply Ext.drew | refine Ext.alloc ?_ _))) hg2 HF5.out.own_low
                   generalize hLL : ((cnf17 m).cs ++ fR m i ++ fQ m i j ++ fP m i j (X - (j + 1)) ++ [[-a, -b]]).length = LL at *))
              all_goals
                go_wp2
                go_roundw
                case rel => exact ⟨X + 1, by omega, by omega, by go_num, _, by rw [HSP.out, HPC.out, ← List.append_assoc]; exact HP⟩
                case measure => simp [intOf]; omega
            · obtain rfl : X = m := by omega
              go_wp2
              go_roundw
              case rel => exact ⟨j + 1, by omega, by go_num, ov, by rw [HSQ.out, ← List.append_assoc]; exact HF5.out⟩
              case measure => simp [intOf]; omega
        · obtain rfl : j = m := by omega
          go_wp2
          go_roundw
          case rel => exact ⟨i + 1, by omega, by go_num, ov, by rw [HSR.out, ← List.append_assoc]; exact HF4.out⟩
          case measure => simp [intOf]; omega
    · obtain rfl : i = m + 1 := by omega
      have XF := hd HF3.out.ext
      have B0 := hd (XF.out.heap HR0.out)
      obtain ⟨A9, c9, rfl, h91, h92⟩ := HF3.out.own.form
      obtain ⟨k0, k1⟩ := blk2 B0.out
      obtain ⟨k2, k3⟩ := blk2f B0.out
      have k4 := blk_lt B0.out
      obtain ⟨m0, m1⟩ := blk2 HF3.out.blk
      have OW := hd HF3.out.own
      have X3 := hd (HX0.out.trans XF.out)
      generalize hL : ((cnf17 m).cs ++ fR m (m + 1)).length = L at *
      have HC := hd (blk2_set (x' := .int .i64 V) (y' := .slice A9 L c9) B0.out)
      have hg3 := grown_set (grown_set (grown_refl wr (some w.heap.size)) 0 (.int .i64 V)) 1 (.slice A9 L c9)
      have OW2 := hd (((OW.out.box B0.out (by decide) (by decide) hg3).hi_le hg3.size).lo_le (lo' := w.heap.size + 1) (by omega))
      have X4 := hd (ext_set (i := 1) (ext_set (i := 0) X3.out (Nat.le_refl _) (.int .i64 V)) (Nat.le_refl _) (.slice A9 L c9))
      clear hg3
      go_wp2
      obtain ⟨p0, p1⟩ := blk2 HC.out
      exact bodyPost_ret (v := .agg #[.int .i64 V, .slice A9 L c9]) (by simp [results, Try.results93, go_sem, p0, p1]) rfl ⟨_, rfl, by rw [HFC.out]; exact OW2.out, X4.out⟩
end Go.Proofs.Ytkcljofjkmhopaa
