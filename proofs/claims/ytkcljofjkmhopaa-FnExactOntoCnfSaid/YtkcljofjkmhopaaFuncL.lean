/-
  FunctionalCnf and OntoCnf, both sides, for all arguments. No condition.
-/
import Derived.Test.YtkcljofjkmhopaaFuncS
import Derived.Test.YtkcljofjkmhopaaLaw
namespace Go.Proofs.Ytkcljofjkmhopaa
open Go.RowKit
def funcV (n : Int) : Cnf := if holesB n then func17 n.toNat else ⟨0, []⟩
theorem holes_inv {n : Int} (h : holesB n = true) : ∃ m : Nat, n = m ∧ 1 ≤ m ∧ m ≤ 3 := by
  have h1 := inB_iff.1 (show inB n 1 3 = true from h)
  exact ⟨n.toNat, by omega, by omega, by omega⟩
theorem func17_bd {m : Nat} (hm : 1 ≤ m ∧ m ≤ 3) : Bd_Cnf (func17 m) ∧ (func17 m).cs.length ≤ 100 := by
  have key : ∀ m ∈ [1, 2, 3], ((func17 m).cs.length ≤ 1048576 ∧ (∀ xs ∈ (func17 m).cs, xs.length ≤ 1048576) ∧ sumN (lens (func17 m).cs) ≤ 1048576) ∧ (func17 m).cs.length ≤ 100 := by decide
  exact key m (by simp; omega)
theorem funcV_bd (n : Int) : Bd_Cnf (funcV n) := by
  unfold funcV
  split
  · rename_i h
    obtain ⟨m, rfl, hm⟩ := holes_inv h
    rw [Int.toNat_natCast]
    exact (func17_bd hm).1
  · exact ⟨by simp, by simp, by simp [lens, sumN]⟩
def RetN (w : World) (f : Cnf) (q : Bool) : Ending → World → Prop := fun e w' => ∃ u, e = .returned (.tuple #[u, .bool q]) ∧ Own_Cnf w' w.heap.size w'.heap.size u f ∧ Ext w w'
theorem RetN.zero {w w' : World} {f : Cnf} {q : Bool} (hf : Hid (f = ⟨0, []⟩)) (hx : Ext w w') (hq : q = false) : RetN w f q (.returned (.tuple #[.agg #[.int .i64 0, .slice none 0 0], .bool false])) w' := by
  subst hq
  rw [hf.out]
  exact ⟨_, rfl, ⟨_, rfl, ownSS_nil _ _ _ _ _⟩, hx⟩
set_option maxHeartbeats 1600000 in
theorem s_FunctionalCnf (n : Int) (w : World) (_ : I64 n) : Calls Try.prog 44 #[.int .i64 n] w (RetN w (funcV n) (holesB n)) := by
  have X0 : Hid (Ext w (w.alloc (.cells #[.int .i64 0, .slice none 0 0] 41))) := hd (Ext.new _ _)
  have HB := hd (blk_new (w := w) (.cells #[.int .i64 0, .slice none 0 0] 41) rfl)
  obtain ⟨q, hq⟩ : ∃ q, holesB n = q := ⟨_, rfl⟩
  have HQ := hd hq
  have HV : Hid (funcV n = if q then func17 n.toNat else ⟨0, []⟩) := hd (by unfold funcV; rw [hq])
  cases q
  · clear hq
    have X1 : Hid (∀ i j u v, Ext w (((w.alloc (.cells #[.int .i64 0, .slice none 0 0] 41)).setCell ⟨w.heap.size, i, none⟩ u).setCell ⟨w.heap.size, j, none⟩ v)) := hd fun i j u v => ext_set (ext_set X0.out (Nat.le_refl _) u) (Nat.le_refl _) v
    have HC := hd (blk2_set (x' := .int .i64 0) (y' := .slice none 0 0) HB.out)
    go_enter Try.func44, Try.ntmps44
    go_wp2_with fail
    refine (rt (s_l17Holes n _) HQ).mono ?_
    rintro e w1 ⟨rfl, rfl⟩
    go_wp2
    obtain ⟨p0, p1⟩ := blk2 HC.out
    rw [HQ.out]
    exact bodyPost_ret (v := .tuple #[.agg #[.int .i64 0, .slice none 0 0], .bool false]) (by simp [results, Try.results44, go_sem, p0, p1]) rfl (RetN.zero (hd HV.out) (by first | exact X1.out _ _ _ _ | exact X0.out) rfl)
  · obtain ⟨m, rfl, hm⟩ := holes_inv hq
    rw [if_pos rfl, Int.toNat_natCast] at HV
    clear hq
    have HF := hd (fun w => s_l28Functional m hm w)
    have HNN : Hid ((func17 m).n = ((m : Int) + 1) * (m : Int)) := hd rfl
    generalize ((m : Int) + 1) * (m : Int) = V at *
    go_enter Try.func44, Try.ntmps44
    go_wp2_with fail
    refine (rt (s_l17Holes m _) HQ).mono ?_
    rintro e w1 ⟨rfl, rfl⟩
    go_wp2_with fail
    refine (HF.out _).mono ?_
    rintro e w3 ⟨ov, rfl, ho, hx⟩
    obtain ⟨A, c, rfl, h1, h2⟩ := ho.form
    have B3 := hd (hx.heap HB.out)
    obtain ⟨k0, k1⟩ := blk2 B3.out
    obtain ⟨k2, k3⟩ := blk2f B3.out
    have k4 := blk_lt B3.out
    have X3 := hd (X0.out.trans hx)
    have OW := hd ho
    clear ho hx
    generalize hL : (func17 m).cs.length = L at *
    have HC := hd (blk2_set (x' := .int .i64 V) (y' := .slice A L c) B3.out)
    have hg3 := grown_set (grown_set (grown_refl w3 (some w.heap.size)) 0 (.int .i64 V)) 1 (.slice A L c)
    have OW2 := hd (((OW.out.box B3.out (by decide) (by decide) hg3).hi_le hg3.size).lo_le (lo' := w.heap.size) (by simp; omega))
    have X4 := hd (ext_set (i := 1) (ext_set (i := 0) X3.out (Nat.le_refl _) (.int .i64 V)) (Nat.le_refl _) (.slice A L c))
    clear hg3
    go_wp2
    obtain ⟨p0, p1⟩ := blk2 HC.out
    rw [HQ.out]
    exact bodyPost_ret (v := .tuple #[.agg #[.int .i64 V, .slice A L c], .bool true]) (by simp [results, Try.results44, go_sem, p0, p1]) rfl ⟨_, rfl, by rw [HV.out]; exact ⟨_, by rw [HNN.out], OW2.out⟩, X4.out⟩
theorem i_PigeonCnf_no (n : Int) (w : World) (hq : Hid (holesB n = false)) : Calls Try.prog 94 #[.int .i64 n] w (RetX w (.tuple #[.agg #[.int .i64 0, .slice none 0 0], .bool false])) := by
  have X0 : Hid (Ext w (w.alloc (.cells #[.int .i64 0, .slice none 0 0] 41))) := hd (Ext.new _ _)
  have HB := hd (blk_new (w := w) (.cells #[.int .i64 0, .slice none 0 0] 41) rfl)
  have X1 : Hid (∀ i j u v, Ext w (((w.alloc (.cells #[.int .i64 0, .slice none 0 0] 41)).setCell ⟨w.heap.size, i, none⟩ u).setCell ⟨w.heap.size, j, none⟩ v)) := hd fun i j u v => ext_set (ext_set X0.out (Nat.le_refl _) u) (Nat.le_refl _) v
  have HC := hd (blk2_set (x' := .int .i64 0) (y' := .slice none 0 0) HB.out)
  go_enter Try.func94, Try.ntmps94
  go_wp2_with fail
  refine (rt (i_holesOk n _) hq).mono ?_
  rintro e w1 ⟨rfl, rfl⟩
  go_wp2
  obtain ⟨p0, p1⟩ := blk2 HC.out
  exact bodyPost_ret (v := .tuple #[.agg #[.int .i64 0, .slice none 0 0], .bool false]) (by simp [results, Try.results94, go_sem, p0, p1]) rfl (RetX.mk rfl (by first | exact X1.out _ _ _ _ | exact X0.out))
set_option maxHeartbeats 1600000 in
theorem i_FunctionalCnf (n : Int) (w : World) (_ : I64 n) : Calls Try.prog 45 #[.int .i64 n] w (RetN w (funcV n) (holesB n)) := by
  obtain ⟨q, hq⟩ : ∃ q, holesB n = q := ⟨_, rfl⟩
  cases q
  · have HQ := hd hq
    have HV : Hid (funcV n = ⟨0, []⟩) := hd (by unfold funcV; rw [hq]; rfl)
    clear hq
    have HB := hd (blk_new (w := w) (.cells #[.int .i64 0, .slice none 0 0] 41) rfl)
    go_enter Try.func45, Try.ntmps45
    go_wp2_with fail
    refine (i_PigeonCnf_no n _ HQ).mono ?_
    rintro e w1 ⟨rfl, hx⟩
    have X1 := hd ((Ext.trans (Ext.new w (.cells #[.int .i64 0, .slice none 0 0] 41)) hx).alloc (.cells #[.int .i64 0, .slice none 0 0] 41))
    have B1 := hd (blk_old (o' := .cells #[.int .i64 0, .slice none 0 0] 41) (hx.heap HB.out))
    obtain ⟨k0, k1⟩ := blk2 B1.out
    obtain ⟨k2, k3⟩ := blk2f B1.out
    have k4 := blk_lt B1.out
    have HC := hd (blk2_set (x' := .int .i64 0) (y' := .slice none 0 0) B1.out)
    have X4 := hd (ext_set (i := 1) (ext_set (i := 0) X1.out (Nat.le_refl _) (.int .i64 0)) (Nat.le_refl _) (.slice none 0 0))
    clear hx
    go_wp2
    obtain ⟨p0, p1⟩ := blk2 HC.out
    rw [HQ.out]
    exact bodyPost_ret (v := .tuple #[.agg #[.int .i64 0, .slice none 0 0], .bool false]) (by simp [results, Try.results45, go_sem, p0, p1]) rfl (RetN.zero HV X4.out rfl)
  · obtain ⟨m, rfl, hm⟩ := holes_inv hq
    refine (i_FunctionalCnf' m hm w).mono ?_
    rintro e w' ⟨ov, rfl, ho, hx⟩
    rw [hq]
    refine ⟨_, rfl, ?_, hx⟩
    unfold funcV
    rw [hq, if_pos rfl, Int.toNat_natCast]
    exact ⟨_, rfl, ho.lo_le (by omega)⟩
/-! ### OntoCnf -/
def oRow (m j k : Nat) : List Int := (List.range k).map fun i : Nat => pvar m ((i : Int) + 1) ((j : Int) + 1)
def oCls (m j : Nat) : List (List Int) := (List.range j).map fun j => oRow m j (m + 1)
theorem oRow_succ (m j k : Nat) : oRow m j (k + 1) = oRow m j k ++ [pvar m ((k : Int) + 1) ((j : Int) + 1)] := by simp [oRow, List.range_succ]
theorem oCls_succ (m j : Nat) : oCls m (j + 1) = oCls m j ++ [oRow m j (m + 1)] := by simp [oCls, List.range_succ]
def onto17 (m : Nat) : Cnf := ⟨((m : Int) + 1) * (m : Int), (func17 m).cs ++ oCls m m⟩
def ontoV (n : Int) : Cnf := if holesB n then onto17 n.toNat else ⟨0, []⟩
theorem onto17_bd {m : Nat} (hm : 1 ≤ m ∧ m ≤ 3) : Bd_Cnf (onto17 m) := by
  have key : ∀ m ∈ [1, 2, 3], (onto17 m).cs.length ≤ 1048576 ∧ (∀ xs ∈ (onto17 m).cs, xs.length ≤ 1048576) ∧ sumN (lens (onto17 m).cs) ≤ 1048576 := by decide +kernel
  exact key m (by simp; omega)
theorem ontoV_bd (n : Int) : Bd_Cnf (ontoV n) := by
  unfold ontoV
  split
  · rename_i h
    obtain ⟨m, rfl, hm⟩ := holes_inv h
    rw [Int.toNat_natCast]
    exact onto17_bd hm
  · exact ⟨by simp, by simp, by simp [lens, sumN]⟩
set_option maxRecDepth 100000 in
set_option maxHeartbeats 3200000 in
theorem s_OntoCnf (n : Int) (w : World) (_ : I64 n) : Calls Try.prog 46 #[.int .i64 n] w (RetN w (ontoV n) (holesB n)) := by
  have X0 : Hid (Ext w (w.alloc (.cells #[.int .i64 0, .slice none 0 0] 41))) := hd (Ext.new _ _)
  have HB := hd (blk_new (w := w) (.cells #[.int .i64 0, .slice none 0 0] 41) rfl)
  obtain ⟨q, hq⟩ : ∃ q, holesB n = q := ⟨_, rfl⟩
  have HQ := hd hq
  have HV : Hid (ontoV n = if q then onto17 n.toNat else ⟨0, []⟩) := hd (by unfold ontoV; rw [hq])
  cases q
  · clear hq
    have X1 : Hid (∀ i j u v, Ext w (((w.alloc (.cells #[.int .i64 0, .slice none 0 0] 41)).setCell ⟨w.heap.size, i, none⟩ u).setCell ⟨w.heap.size, j, none⟩ v)) := hd fun i j u v => ext_set (ext_set X0.out (Nat.le_refl _) u) (Nat.le_refl _) v
    have HC := hd (blk2_set (x' := .int .i64 0) (y' := .slice none 0 0) HB.out)
    go_enter Try.func46, Try.ntmps46
    go_wp2_with fail
    refine (rt (s_l17Holes n _) HQ).mono ?_
    rintro e w1 ⟨rfl, rfl⟩
    go_wp2
    obtain ⟨p0, p1⟩ := blk2 HC.out
    rw [HQ.out]
    exact bodyPost_ret (v := .tuple #[.agg #[.int .i64 0, .slice none 0 0], .bool false]) (by simp [results, Try.results46, go_sem, p0, p1]) rfl (RetN.zero (hd HV.out) (by first | exact X1.out _ _ _ _ | exact X0.out) rfl)
  · obtain ⟨m, rfl, hm⟩ := holes_inv hq
    rw [if_pos rfl, Int.toNat_natCast] at HV
    clear hq
    have HF := hd (fun w => s_l28Functional m hm w)
    have HNN : Hid ((onto17 m).n = ((m : Int) + 1) * (m : Int)) := hd rfl
    have HCC : Hid ((onto17 m).cs = (func17 m).cs ++ oCls m m) := hd rfl
    have hlc := (func17_bd hm).2
    have HVA : Hid (∀ (a b : Int) (w : World), 1 ≤ a ∧ a ≤ 1000 → 0 ≤ b ∧ b ≤ 1000 → Calls Try.prog 77 #[.int .i64 m, .int .i64 a, .int .i64 b] w (Ret w (.int .i64 (pvar m a b)))) := hd fun a b w ha hb => s_l17Var m a b w (by omega) ha hb
    obtain ⟨hm1, hm2⟩ := hm
    generalize ((m : Int) + 1) * (m : Int) = V at *
    obtain ⟨w0, hw0⟩ : ∃ w0 : World, w0 = w.alloc (.cells #[.int .i64 0, .slice none 0 0] 41) := ⟨_, rfl⟩
    have hs0 : w0.heap.size = w.heap.size + 1 := by rw [hw0]; simp
    rw [← hw0] at HB X0
    have HW0 := hd hw0
    clear hw0
    go_enter Try.func46, Try.ntmps46
    go_wp2_with fail
    rw [← HW0.out]
    refine (rt (s_l17Holes m _) HQ).mono ?_
    rintro e w1 ⟨rfl, rfl⟩
    go_wp2_with fail
    refine (HF.out _).mono ?_
    rintro e w3 ⟨ov, rfl, ho, hx⟩
    obtain ⟨A, c, rfl, h1, h2⟩ := ho.form
    have F0 : Hid (FamB w0 (w3.alloc (.cells #[.int .i64 V, .slice A (func17 m).cs.length c] 41)) w3.heap.size 41 V w0.heap.size (.slice A (func17 m).cs.length c) ((func17 m).cs ++ oCls m 0)) :=
      hd ⟨blk_new _ rfl, by rw [show oCls m 0 = [] from rfl, List.append_nil]; exact ((ho.ext (Ext.new _ _)).hi_le (by simp)).lo_le (by omega), hx.alloc _, hx.size, Nat.le_refl _, Nat.le_trans hx.size (by simp)⟩
    have hbx : w0.heap.size ≤ w3.heap.size := hx.size
    clear ho hx
    generalize hbb : w3.heap.size = bx at *
    go_wp2
    go_loopw [5] (fun x wr => ∃ k : Nat, k ≤ m ∧ x = .int .i64 ((k : Int) + 1) ∧ ∃ ov, FamB w0 wr bx 41 V w0.heap.size ov ((func17 m).cs ++ oCls m k)) (fun x _ => m + 1 - (intOf x).toNat)
    case atStart => exact ⟨0, by omega, rfl, _, F0.out⟩
    case round =>
      obtain ⟨k, hk, rfl, ov, hF⟩ := hrel
      have HF2 := hd hF
      clear hF F0
      by_cases hlt : k < m
      · have HS : Hid (oCls m (k + 1) = oCls m k ++ [oRow m k (m + 1)]) := hd (oCls_succ m k)
        have hkl : (k : Int) + 1 ≤ (m : Int) := by omega
        have hol : (oCls m k).length = k := by simp [oCls]
        obtain ⟨wo, rfl⟩ : ∃ wo : World, wo = wr := ⟨_, rfl⟩
        go_wp2
        go_loopw [7, 6] (fun x pv wr => ∃ h : Nat, h ≤ m + 1 ∧ x = .int .i64 ((h : Int) + 1) ∧ OwnI wr wo.heap.size 3 pv (oRow m k h) ∧ Ext wo wr) (fun x _ _ => m + 2 - (intOf x).toNat)
        case atStart => exact ⟨0, by omega, rfl, by rw [show oRow m k 0 = [] from rfl]; exact ownI_emp' rfl (Nat.le_refl _), Ext.new _ _⟩
        case round =>
          obtain ⟨h, hh, rfl, ho, hx⟩ := hrel
          have HX := hd hx
          have HO := hd ho
          clear ho hx
          have hrl : (oRow m k h).length = h := by simp [oRow]
          by_cases hlt2 : h < m + 1
          · have HS2 := hd (oRow_succ m k h)
            have hle : (h : Int) + 1 ≤ (m : Int) + 1 := by omega
            have HVC := hd (HVA.out ((h : Int) + 1) ((k : Int) + 1) wr (by omega) (by omega))
            generalize pvar m ((h : Int) + 1) ((k : Int) + 1) = z at *
            go_wp2_with fail
            refine HVC.out.mono ?_
            rintro e1 w1 ⟨rfl, rfl⟩
            go_wp2_with (at_builtin; refine appI wr HO.out rfl _ _ rfl _ (by rfl) (by rfl) (by omega) HX.out.size ?_; intro v' w1 ho1 hg1 _)
            go_roundw
            case rel => exact ⟨h + 1, by omega, by go_num, by rw [HS2.out]; exact ho1, ext_app HX.out hg1 (ownI_ge HO.out)⟩
            case measure => simp [intOf]; omega
          · have HO2 : Hid (OwnI wr wo.heap.size 3 _ (oRow m k (m + 1))) := hd (by have := HO.out; rw [show h = m + 1 from by omega] at this; exact this)
            have hkl2 : ¬ (h : Int) + 1 ≤ (m : Int) + 1 := by omega
            have hcl : ((func17 m).cs ++ oCls m k).length ≤ 1048576 := by rw [List.length_append, hol]; omega
            obtain ⟨c0, c1⟩ := blk2 (HX.out.heap HF2.out.blk)
            clear hrl
            obtain ⟨A7, c7, rfl, hO7⟩ := HO2.out.form
            go_wp2_with (at_builtin; refine appL wr (HF2.out.own.ext HX.out) hO7.out HF2.out.low HX.out.size rfl _ _ rfl (by rfl) (by rfl) (by omega) ?_
                         intro v' w2 ho2 hg2
                         obtain ⟨A5, c5, rfl, h51, h52⟩ := OwnSS.form ho2
                         have hB2 := HF2.out.blk1 (by decide) (HX.out.alloc _) hg2
                         obtain ⟨q0, q1⟩ := blk2 hB2
                         obtain ⟨q2, q3⟩ := blk2f hB2
                         have q4 := blk_lt hB2
                         have HP := HF2.out.put (by decide) (by decide) (HX.out.alloc _) ho2 hg2
                         generalize hLL : ((func17 m).cs ++ oCls m k ++ [oRow m k (m + 1)]).length = LL at *)
            go_roundw
            case rel => exact ⟨k + 1, by omega, by go_num, _, by rw [HS.out, ← List.append_assoc]; exact HP⟩
            case measure => simp [intOf]; omega
      · obtain rfl : k = m := by omega
        have XF := hd HF2.out.ext
        have B0 := hd (XF.out.heap HB.out)
        obtain ⟨A9, c9, rfl, h91, h92⟩ := HF2.out.own.form
        obtain ⟨k0, k1⟩ := blk2 B0.out
        obtain ⟨k2, k3⟩ := blk2f B0.out
        have k4 := blk_lt B0.out
        obtain ⟨m0, m1⟩ := blk2 HF2.out.blk
        have OW := hd HF2.out.own
        have X3 := hd (X0.out.trans XF.out)
        generalize hL : ((func17 k).cs ++ oCls k k).length = L at *
        have HC := hd (blk2_set (x' := .int .i64 V) (y' := .slice A9 L c9) B0.out)
        have hg3 := grown_set (grown_set (grown_refl wr (some w.heap.size)) 0 (.int .i64 V)) 1 (.slice A9 L c9)
        have OW2 := hd (((OW.out.box B0.out (by decide) (by decide) hg3).hi_le hg3.size).lo_le (lo' := w.heap.size) (by omega))
        have X4 := hd (ext_set (i := 1) (ext_set (i := 0) X3.out (Nat.le_refl _) (.int .i64 V)) (Nat.le_refl _) (.slice A9 L c9))
        clear hg3
        go_wp2
        obtain ⟨p0, p1⟩ := blk2 HC.out
        rw [HQ.out]
        exact bodyPost_ret (v := .tuple #[.agg #[.int .i64 V, .slice A9 L c9], .bool true]) (by simp [results, Try.results46, go_sem, p0, p1]) rfl ⟨_, rfl, by rw [HV.out]; exact ⟨_, by rw [HNN.out], by rw [HCC.out]; exact OW2.out⟩, X4.out⟩
set_option maxRecDepth 100000 in
set_option maxHeartbeats 3200000 in
theorem i_OntoCnf (n : Int) (w : World) (hn64 : I64 n) : Calls Try.prog 47 #[.int .i64 n] w (RetN w (ontoV n) (holesB n)) := by
  have X0 : Hid (Ext w (w.alloc (.cells #[.int .i64 0, .slice none 0 0] 41))) := hd (Ext.new _ _)
  have HB := hd (blk_new (w := w) (.cells #[.int .i64 0, .slice none 0 0] 41) rfl)
  have HF0 := hd (fun w => i_FunctionalCnf n w hn64)
  clear hn64
  obtain ⟨q, hq⟩ : ∃ q, holesB n = q := ⟨_, rfl⟩
  have HQ := hd hq
  have HV : Hid (ontoV n = if q then onto17 n.toNat else ⟨0, []⟩) := hd (by unfold ontoV; rw [hq])
  cases q
  · have HFV : Hid (funcV n = ⟨0, []⟩) := hd (by unfold funcV; rw [hq]; rfl)
    clear hq
    go_enter Try.func47, Try.ntmps47
    go_wp2_with fail
    refine (HF0.out _).mono ?_
    rintro e w1 ⟨u, rfl, hu, hx⟩
    rw [HQ.out]
    rw [HFV.out] at hu
    obtain ⟨A, c, rfl, -⟩ := hu.form
    have X1 := hd ((X0.out.trans hx).alloc (.cells #[.int .i64 0, .slice A 0 c] 41))
    have B1 := hd (blk_old (o' := .cells #[.int .i64 0, .slice A 0 c] 41) (hx.heap HB.out))
    obtain ⟨k0, k1⟩ := blk2 B1.out
    obtain ⟨k2, k3⟩ := blk2f B1.out
    have k4 := blk_lt B1.out
    have HC := hd (blk2_set (x' := .int .i64 0) (y' := .slice none 0 0) B1.out)
    have X4 := hd (ext_set (i := 1) (ext_set (i := 0) X1.out (Nat.le_refl _) (.int .i64 0)) (Nat.le_refl _) (.slice none 0 0))
    clear hx hu
    go_wp2
    obtain ⟨p0, p1⟩ := blk2 HC.out
    rw [HQ.out]
    exact bodyPost_ret (v := .tuple #[.agg #[.int .i64 0, .slice none 0 0], .bool false]) (by simp [results, Try.results47, go_sem, p0, p1]) rfl (RetN.zero (hd HV.out) X4.out rfl)
  · obtain ⟨m, rfl, hm⟩ := holes_inv hq
    rw [if_pos rfl, Int.toNat_natCast] at HV
    have HFV : Hid (funcV (m : Int) = func17 m) := hd (by unfold funcV; rw [hq, if_pos rfl, Int.toNat_natCast])
    clear hq
    have HNN : Hid ((onto17 m).n = ((m : Int) + 1) * (m : Int)) := hd rfl
    have HNF : Hid ((func17 m).n = ((m : Int) + 1) * (m : Int)) := hd rfl
    have HCC : Hid ((onto17 m).cs = (func17 m).cs ++ oCls m m) := hd rfl
    have hlc := (func17_bd hm).2
    have HVA : Hid (∀ (a b : Int) (w : World), 1 ≤ a ∧ a ≤ 1000 → 0 ≤ b ∧ b ≤ 1000 → Calls Try.prog 79 #[.int .i64 m, .int .i64 a, .int .i64 b] w (Ret w (.int .i64 (pvar m a b)))) := hd fun a b w ha hb => i_pigeonVar m a b w (by omega) ha hb
    obtain ⟨hm1, hm2⟩ := hm
    generalize ((m : Int) + 1) * (m : Int) = V at *
    obtain ⟨w0, hw0⟩ : ∃ w0 : World, w0 = w.alloc (.cells #[.int .i64 0, .slice none 0 0] 41) := ⟨_, rfl⟩
    have hs0 : w0.heap.size = w.heap.size + 1 := by rw [hw0]; simp
    rw [← hw0] at HB X0
    have HW0 := hd hw0
    clear hw0
    go_enter Try.func47, Try.ntmps47
    go_wp2_with fail
    rw [← HW0.out]
    refine (HF0.out _).mono ?_
    rintro e w3 ⟨u, rfl, hu, hx⟩
    rw [HQ.out]
    rw [HFV.out] at hu
    obtain ⟨ov, rfl, ho⟩ := hu
    rw [HNF.out]
    obtain ⟨A, c, rfl, h1, h2⟩ := ho.form
    have F0 : Hid (FamB w0 (w3.alloc (.cells #[.int .i64 V, .slice A (func17 m).cs.length c] 41)) w3.heap.size 41 V w0.heap.size (.slice A (func17 m).cs.length c) ((func17 m).cs ++ oCls m 0)) :=
      hd ⟨blk_new _ rfl, by rw [show oCls m 0 = [] from rfl, List.append_nil]; exact ((ho.ext (Ext.new _ _)).hi_le (by simp)), hx.alloc _, hx.size, Nat.le_refl _, Nat.le_trans hx.size (by simp)⟩
    have hbx : w0.heap.size ≤ w3.heap.size := hx.size
    clear ho hx
    generalize hbb : w3.heap.size = bx at *
    go_wp2
    go_loopw [6] (fun x wr => ∃ k : Nat, k ≤ m ∧ x = .int .i64 ((k : Int) + 1) ∧ ∃ ov, FamB w0 wr bx 41 V w0.heap.size ov ((func17 m).cs ++ oCls m k)) (fun x _ => m + 1 - (intOf x).toNat)
    case atStart => exact ⟨0, by omega, rfl, _, F0.out⟩
    case round =>
      obtain ⟨k, hk, rfl, ov, hF⟩ := hrel
      have HF2 := hd hF
      clear hF F0
      by_cases hlt : k < m
      · have HS : Hid (oCls m (k + 1) = oCls m k ++ [oRow m k (m + 1)]) := hd (oCls_succ m k)
        have hkl : (k : Int) + 1 ≤ (m : Int) := by omega
        have hol : (oCls m k).length = k := by simp [oCls]
        obtain ⟨wo, rfl⟩ : ∃ wo : World, wo = wr := ⟨_, rfl⟩
        go_wp2
        go_loopw [8, 7] (fun x pv wr => ∃ h : Nat, h ≤ m + 1 ∧ x = .int .i64 ((h : Int) + 1) ∧ OwnI wr wo.heap.size 3 pv (oRow m k h) ∧ Ext wo wr) (fun x _ _ => m + 2 - (intOf x).toNat)
        case atStart => exact ⟨0, by omega, rfl, by rw [show oRow m k 0 = [] from rfl]; exact ownI_nil _ _ _, Ext.refl _⟩
        case round =>
          obtain ⟨h, hh, rfl, ho, hx⟩ := hrel
          have HX := hd hx
          have HO := hd ho
          clear ho hx
          have hrl : (oRow m k h).length = h := by simp [oRow]
          by_cases hlt2 : h < m + 1
          · have HS2 := hd (oRow_succ m k h)
            have hle : (h : Int) + 1 ≤ (m : Int) + 1 := by omega
            have HVC := hd (HVA.out ((h : Int) + 1) ((k : Int) + 1) wr (by omega) (by omega))
            generalize pvar m ((h : Int) + 1) ((k : Int) + 1) = z at *
            go_wp2_with fail
            refine HVC.out.mono ?_
            rintro e1 w1 ⟨rfl, rfl⟩
            go_wp2_with (at_builtin; refine appI wr HO.out rfl _ _ rfl _ (by rfl) (by rfl) (by omega) HX.out.size ?_; intro v' w1 ho1 hg1 _)
            go_roundw
            case rel => exact ⟨h + 1, by omega, by go_num, by rw [HS2.out]; exact ho1, ext_app HX.out hg1 (ownI_ge HO.out)⟩
            case measure => simp [intOf]; omega
          · have HO2 : Hid (OwnI wr wo.heap.size 3 _ (oRow m k (m + 1))) := hd (by have := HO.out; rw [show h = m + 1 from by omega] at this; exact this)
            have hkl2 : ¬ (h : Int) + 1 ≤ (m : Int) + 1 := by omega
            have hcl : ((func17 m).cs ++ oCls m k).length ≤ 1048576 := by rw [List.length_append, hol]; omega
            obtain ⟨c0, c1⟩ := blk2 (HX.out.heap HF2.out.blk)
            clear hrl
            obtain ⟨A7, c7, rfl, hO7⟩ := HO2.out.form
            go_wp2_with (at_builtin; refine appL wr (HF2.out.own.ext HX.out) hO7.out HF2.out.low HX.out.size rfl _ _ rfl (by rfl) (by rfl) (by omega) ?_
                         intro v' w2 ho2 hg2
                         obtain ⟨A5, c5, rfl, h51, h52⟩ := OwnSS.form ho2
                         have hB2 := HF2.out.blk1 (by decide) (HX.out.alloc _) hg2
                         obtain ⟨q0, q1⟩ := blk2 hB2
                         obtain ⟨q2, q3⟩ := blk2f hB2
                         have q4 := blk_lt hB2
                         have HP := HF2.out.put (by decide) (by decide) (HX.out.alloc _) ho2 hg2
                         generalize hLL : ((func17 m).cs ++ oCls m k ++ [oRow m k (m + 1)]).length = LL at *)
            go_roundw
            case rel => exact ⟨k + 1, by omega, by go_num, _, by rw [HS.out, ← List.append_assoc]; exact HP⟩
            case measure => simp [intOf]; omega
      · obtain rfl : k = m := by omega
        have XF := hd HF2.out.ext
        have B0 := hd (XF.out.heap HB.out)
        obtain ⟨A9, c9, rfl, h91, h92⟩ := HF2.out.own.form
        obtain ⟨k0, k1⟩ := blk2 B0.out
        obtain ⟨k2, k3⟩ := blk2f B0.out
        have k4 := blk_lt B0.out
        obtain ⟨m0, m1⟩ := blk2 HF2.out.blk
        have OW := hd HF2.out.own
        have X3 := hd (X0.out.trans XF.out)
        generalize hL : ((func17 k).cs ++ oCls k k).length = L at *
        have HC := hd (blk2_set (x' := .int .i64 V) (y' := .slice A9 L c9) B0.out)
        have hg3 := grown_set (grown_set (grown_refl wr (some w.heap.size)) 0 (.int .i64 V)) 1 (.slice A9 L c9)
        have OW2 := hd (((OW.out.box B0.out (by decide) (by decide) hg3).hi_le hg3.size).lo_le (lo' := w.heap.size) (by omega))
        have X4 := hd (ext_set (i := 1) (ext_set (i := 0) X3.out (Nat.le_refl _) (.int .i64 V)) (Nat.le_refl _) (.slice A9 L c9))
        clear hg3
        go_wp2
        obtain ⟨p0, p1⟩ := blk2 HC.out
        rw [HQ.out]
        exact bodyPost_ret (v := .tuple #[.agg #[.int .i64 V, .slice A9 L c9], .bool true]) (by simp [results, Try.results47, go_sem, p0, p1]) rfl ⟨_, rfl, by rw [HV.out]; exact ⟨_, by rw [HNN.out], by rw [HCC.out]; exact OW2.out⟩, X4.out⟩
end Go.Proofs.Ytkcljofjkmhopaa
