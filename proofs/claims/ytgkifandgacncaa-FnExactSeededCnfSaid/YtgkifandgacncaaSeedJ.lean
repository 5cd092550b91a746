/-
  SeededCnf: the program's function. Conditions: none but the machine's integers.
-/
import Derived.Test.YtgkifandgacncaaSeedI
namespace Go.Proofs.Ytgkifandgacncaa
open Go.RowKit Seed
set_option maxRecDepth 100000 in
set_option maxHeartbeats 6400000 in
theorem i_SeededCnf (n c d s : Int) (w : World) (_ : I64 n) (_ : I64 c) (_ : I64 d) (_ : I64 s) : Calls Try.prog 18 #[.int .i64 n, .int .i64 c, .int .i64 d, .int .i64 s] w (RetN w (seedV n c d s) (seedB n c d s)) := by
  have HS : Hid (seedB n c d s = (inB n 1 12 && (inB c 0 60 && (inB d 1 n && inB s 0 9999)))) := hd rfl
  obtain ⟨q0, hq0⟩ : ∃ q, inB n 1 12 = q := ⟨_, rfl⟩
  obtain ⟨q1, hq1⟩ : ∃ q, inB c 0 60 = q := ⟨_, rfl⟩
  obtain ⟨q2, hq2⟩ : ∃ q, inB d 1 n = q := ⟨_, rfl⟩
  obtain ⟨q3, hq3⟩ : ∃ q, inB s 0 9999 = q := ⟨_, rfl⟩
  have HQ0 := hd hq0
  have HQ1 := hd hq1
  have HQ2 := hd hq2
  have HQ3 := hd hq3
  rw [hq0, hq1, hq2, hq3] at HS
  clear hq0 hq1 hq2 hq3
  go_enter Try.func18, Try.ntmps18
  go_wp2_with fail
  refine (rt (i_within n 1 12 _) HQ0).mono ?_
  rintro e w1 ⟨rfl, rfl⟩
  cases q0
  · have HB := hd (blk_new (w := w) (.cells #[.int .i64 0, .slice none 0 0] 29) rfl)
    obtain ⟨p0, p1⟩ := blk2 HB.out
    obtain ⟨f0, f1⟩ := blk2f HB.out
    have X1 := hd (Ext.new w (.cells #[.int .i64 0, .slice none 0 0] 29))
    have X4 := hd (ext_set (i := 1) (ext_set (i := 0) X1.out (g := w.heap.size) (Nat.le_refl _) (.int .i64 0)) (g := w.heap.size) (Nat.le_refl _) (.slice none 0 0))
    go_wp2
    exact bodyPost_ret (v := .tuple #[.agg #[.int .i64 0, .slice none 0 0], .bool false]) (by simp [results, Try.results18, go_sem, p0, p1]) rfl (seedB_false (HS.out.trans rfl) (by first | exact X1.out | exact X4.out))
  · go_wp2_with fail
    refine (rt (i_within c 0 60 _) HQ1).mono ?_
    rintro e w1 ⟨rfl, rfl⟩
    cases q1
    · have HB := hd (blk_new (w := w) (.cells #[.int .i64 0, .slice none 0 0] 29) rfl)
      obtain ⟨p0, p1⟩ := blk2 HB.out
      obtain ⟨f0, f1⟩ := blk2f HB.out
      have X1 := hd (Ext.new w (.cells #[.int .i64 0, .slice none 0 0] 29))
      have X4 := hd (ext_set (i := 1) (ext_set (i := 0) X1.out (g := w.heap.size) (Nat.le_refl _) (.int .i64 0)) (g := w.heap.size) (Nat.le_refl _) (.slice none 0 0))
      go_wp2
      exact bodyPost_ret (v := .tuple #[.agg #[.int .i64 0, .slice none 0 0], .bool false]) (by simp [results, Try.results18, go_sem, p0, p1]) rfl (seedB_false (HS.out.trans rfl) (by first | exact X1.out | exact X4.out))
    · go_wp2_with fail
      refine (rt (i_within d 1 n _) HQ2).mono ?_
      rintro e w1 ⟨rfl, rfl⟩
      cases q2
      · have HB := hd (blk_new (w := w) (.cells #[.int .i64 0, .slice none 0 0] 29) rfl)
        obtain ⟨p0, p1⟩ := blk2 HB.out
        obtain ⟨f0, f1⟩ := blk2f HB.out
        have X1 := hd (Ext.new w (.cells #[.int .i64 0, .slice none 0 0] 29))
        have X4 := hd (ext_set (i := 1) (ext_set (i := 0) X1.out (g := w.heap.size) (Nat.le_refl _) (.int .i64 0)) (g := w.heap.size) (Nat.le_refl _) (.slice none 0 0))
        go_wp2
        exact bodyPost_ret (v := .tuple #[.agg #[.int .i64 0, .slice none 0 0], .bool false]) (by simp [results, Try.results18, go_sem, p0, p1]) rfl (seedB_false (HS.out.trans rfl) (by first | exact X1.out | exact X4.out))
      · go_wp2_with fail
        refine (rt (i_within s 0 9999 _) HQ3).mono ?_
        rintro e w1 ⟨rfl, rfl⟩
        cases q3
        · have HB := hd (blk_new (w := w) (.cells #[.int .i64 0, .slice none 0 0] 29) rfl)
          obtain ⟨p0, p1⟩ := blk2 HB.out
          obtain ⟨f0, f1⟩ := blk2f HB.out
          have X1 := hd (Ext.new w (.cells #[.int .i64 0, .slice none 0 0] 29))
          have X4 := hd (ext_set (i := 1) (ext_set (i := 0) X1.out (g := w.heap.size) (Nat.le_refl _) (.int .i64 0)) (g := w.heap.size) (Nat.le_refl _) (.slice none 0 0))
          go_wp2
          exact bodyPost_ret (v := .tuple #[.agg #[.int .i64 0, .slice none 0 0], .bool false]) (by simp [results, Try.results18, go_sem, p0, p1]) rfl (seedB_false (HS.out.trans rfl) (by first | exact X1.out | exact X4.out))
        · have h0 := inB_iff.1 HQ0.out
          have h1 := inB_iff.1 HQ1.out
          have h2 := inB_iff.1 HQ2.out
          have h3 := inB_iff.1 HQ3.out
          clear HQ0 HQ1 HQ2 HQ3
          obtain ⟨N, rfl⟩ := Int.eq_ofNat_of_zero_le (show 0 ≤ n by omega)
          obtain ⟨C, rfl⟩ := Int.eq_ofNat_of_zero_le (show 0 ≤ c by omega)
          obtain ⟨D, rfl⟩ := Int.eq_ofNat_of_zero_le (show 0 ≤ d by omega)
          obtain ⟨S, rfl⟩ := Int.eq_ofNat_of_zero_le (show 0 ≤ s by omega)
          have HV : Hid (seedV (N : Int) (C : Int) (D : Int) (S : Int) = ⟨(N : Int), csS N D S C⟩) := hd (by unfold seedV; rw [HS.out]; rfl)
          have HGD : Hid (goodB ⟨(N : Int), csS N D S C⟩ = true) := hd (csS_good (by omega) (by omega) (by omega))
          have HBD : Hid (Bd_Cnf ⟨(N : Int), csS N D S C⟩) := hd (csS_bd (by omega) (by omega) (by omega))
          have HFL : Hid (∀ s, (finL N D s).2.length = D ∧ OkL N (finL N D s).2) := hd fun s => ⟨finL_len (by omega) (by omega) (by omega), finL_ok (by omega)⟩
          have HFG : Hid (∀ s, gof N D (fuelL N D s) s [] = finL N D s) := hd fun s => rfl
          have HST : Hid (∀ i, stS N D S i < 65536) := hd fun i => stS_lt (by omega) i
          have HS1 : Hid (∀ i, stS N D S (i + 1) = (finL N D (stS N D S i)).1) := hd fun i => rfl
          have HS0 : Hid (stS N D S 0 = S) := hd rfl
          have HC1 : Hid (∀ i, csS N D S (i + 1) = csS N D S i ++ [srtA (finL N D (stS N D S i)).2]) := hd fun i => rfl
          have HC0 : Hid (csS N D S 0 = []) := hd rfl
          have HCL : Hid (∀ i, (csS N D S i).length = i) := hd fun i => csS_len _ _ _ i
          obtain ⟨W0, hW0⟩ : ∃ W0, W0 = w.alloc (.cells #[.int .i64 0, .slice none 0 0] 29) := ⟨_, rfl⟩
          have hz0 : W0.heap.size = w.heap.size + 1 := by rw [hW0]; simp
          have X0 : Hid (Ext w W0) := hd (by rw [hW0]; exact Ext.new _ _)
          have R0 : Hid (W0.heap[w.heap.size]? = some (.cells #[.int .i64 0, .slice none 0 0] 29)) := hd (by rw [hW0]; exact blk_new _ rfl)
          have HW0 := hd hW0
          clear hW0
          generalize stS N D S = ST at *
          generalize csS N D S = CS at *
          have F0 : Hid (SeedW W0 ((W0.alloc (.cells #[.int .i64 (S : Int)] 71)).alloc (.cells #[.int .i64 (N : Int), .slice none 0 0] 52)) (w.heap.size + 1 + 1) (w.heap.size + 1) (w.heap.size + 1) (N : Int) (.slice none 0 0) (CS 0) (ST 0)) :=
            hd ⟨⟨blk_new _ (by simp; omega), by rw [HC0.out]; exact ownSS_nil _ _ _ _ _, (Ext.new _ _).alloc _, by omega, by omega, by simp; omega⟩, by rw [HS0.out]; exact blk_old (blk_new _ hz0), by omega⟩
          have hN1 : 1 ≤ N ∧ N ≤ 12 := by omega
          have hC60 : C ≤ 60 := by omega
          have hD12 : D ≤ 12 := by omega
          clear h0 h1 h2 h3
          go_wp2
          rw [← HW0.out]
          have HX0 := hd X0.out
          generalize hbx : w.heap.size + 1 + 1 = bx at *
          generalize hcb : w.heap.size + 1 = cb at *
          have hcb0 : w.heap.size + 1 ≤ cb := by omega
          have hcb1 : W0.heap.size = cb := hz0
          clear hbx hcb HW0
          go_loopw [42] (fun i wr => ∃ (m : Nat) (ov : Value), m ≤ C ∧ i = .int .i64 (m : Int) ∧ SeedW W0 wr bx cb cb (N : Int) ov (CS m) (ST m)) (fun i _ => C - (intOf i).toNat)
          case atStart => exact ⟨0, _, by omega, rfl, F0.out⟩
          case round =>
            clear F0
            obtain ⟨m, ov, hm, rfl, hF⟩ := hrel
            have HF := hd hF
            clear hF
            have hst := HST.out m
            obtain ⟨hXl, hXo⟩ := HFL.out (ST m)
            have HXL := hd hXl
            have HXO := hd hXo
            have HG0 := hd (HFG.out (ST m))
            have HSN := hd (HS1.out m)
            have HCN := hd (HC1.out m)
            have hcl := HCL.out m
            have hc60 : (CS m).length ≤ 60 := by omega
            clear hcl hXl hXo
            by_cases hlt : m < C
            · generalize hX : finL N D (ST m) = X at *
              generalize fuelL N D (ST m) = k0 at *
              generalize ST m = st0 at *
              clear hX
              obtain ⟨wo, rfl⟩ : ∃ wo : World, wo = wr := ⟨_, rfl⟩
              have hml : (m : Int) < (C : Int) := by omega
              go_wp2
              go_loopg [12] k0 (fun k lv wr => ∃ (st : Nat) (L : List Int), InW W0 wr bx cb cb wo.heap.size (N : Int) ov (CS m) st lv L ∧ gof N D k st L = X ∧ OkL N L ∧ st < 65536)
              case atStart => exact ⟨st0, [], InW.start HF.out, HG0.out, okL_nil _, hst⟩
              case round =>
                obtain ⟨st, L, hi, hg, hok, hstl⟩ := hrel
                have HI := hd hi
                have HG := hd hg
                have HOK := hd hok
                obtain ⟨A, c, rfl, -⟩ := OwnI.form hi.own
                clear hi hg hok
                by_cases hlt2 : L.length < D
                · obtain ⟨km, rfl, hg2⟩ := gof_round HG.out HXL.out hlt2
                  have HG2 := hd hg2
                  have HOK2 := hd (okL_stp (s := st) hN1.1 HOK.out)
                  have hd1 : (L.length : Int) < (D : Int) := by omega
                  have n4 := sgI (nxt (nxt st))
                  have hl1 := nxt_lt st
                  have hl2 := nxt_lt (nxt st)
                  have hvb := vv_bd hN1.1 st
                  have hvv : vv N st = nxt st / 16 % N + 1 := rfl
                  have hng : ng st = decide (nxt (nxt st) / 16 % 2 = 1) := rfl
                  have hsg : sg N st = if ng st then -((vv N st : Nat) : Int) else ((vv N st : Nat) : Int) := rfl
                  have hsl0 : stpL N st L = if seenV L (nxt st / 16 % N + 1) then L else L ++ [sg N st] := rfl
                  have hse : hasI (sortU ([L].flatten.map absW)) ((nxt st / 16 % N + 1 : Nat) : Int) = seenV L (nxt st / 16 % N + 1) := seen_sort HOK.out hN1.2
                  have hm2 : nxt (nxt st) / 16 % 2 < 2 := Nat.mod_lt _ (by decide)
                  rw [hvv] at hsg hvb
                  have ev : ((nxt st / 16 % N + 1 : Nat) : Int) = ((nxt st / 16 % N : Nat) : Int) + 1 := by omega
                  rw [ev] at hsg hse
                  rw [hng] at hsg
                  have HSG := hd hsg
                  clear hg2 hng hsg hvv ev HG
                  generalize hb2 : nxt (nxt st) / 16 % 2 = b2 at *
                  generalize hv0 : nxt st / 16 % N = v0 at *
                  generalize hs2 : nxt (nxt st) = s2 at *
                  generalize hs1 : nxt st = s1 at *
                  generalize sg N st = sl at *
                  generalize stpL N st L = L2 at *
                  generalize seenV L (v0 + 1) = q4 at *
                  have hul : (sortU ([L].flatten.map absW)).length ≤ 12 := Nat.le_trans (sortU_len _) (by simp; omega)
                  have HVR : Hid (∀ v w', RdSS w' v [L] → Calls Try.prog 50 #[v] w' (RetI w' 3 (sortU ([L].flatten.map absW)))) := hd fun v w' h => i_varsOf [L] v w' h (by simp; omega) (by simp)
                  generalize sortU ([L].flatten.map absW) = US at *
                  have HQ4 := hd hse
                  have HSL := hd hsl0
                  clear hse hsl0 n4
                  have hml2 : L.length ≤ 12 := by omega
                  have hcases : b2 = 0 ∨ b2 = 1 := by omega
                  clear hm2
                  have hvl : (v0 : Int) + 1 ≤ 12 := by omega
                  have HBL : Hid (∀ w', w'.heap[cb]? = some (.cells #[.int .i64 (st : Int)] 71) → Calls Try.prog 48 #[.pointer (some ⟨cb, 0, none⟩), .int .i64 (N : Int)] w' (fun e w1 => ∃ r : Int, e = .returned (.int .i64 r) ∧ r = (v0 : Int) ∧ w1 = w'.setCell ⟨cb, 0, none⟩ (.int .i64 (s1 : Int)))) := hd fun w' h => by
                    have := i_below N st cb w' h hN1 hstl
                    rw [hs1, hv0] at this
                    exact this
                  have HBM : Hid (∀ w', w'.heap[cb]? = some (.cells #[.int .i64 (s1 : Int)] 71) → Calls Try.prog 48 #[.pointer (some ⟨cb, 0, none⟩), .int .i64 2] w' (fun e w1 => ∃ r : Int, e = .returned (.int .i64 r) ∧ r = (b2 : Int) ∧ w1 = w'.setCell ⟨cb, 0, none⟩ (.int .i64 (s2 : Int)))) := hd fun w' h => by
                    have := i_below 2 s1 cb w' h (by decide) hl1
                    rw [hs2, hb2] at this
                    exact this
                  clear hs1 hs2 hv0 hb2
                  rcases hcases with rfl | rfl
                  · have HSL2 : Hid (sl = ((v0 : Int) + 1)) := hd (by rw [HSG.out]; simp)
                    go_wp2_with fail
                    refine (HBL.out wr HI.out.all.ch).mono ?_
                    rintro e w1 ⟨r1, rfl, hr1, hw1⟩
                    have HI1 := hd (HI.out.step s1)
                    rw [← hw1] at HI1
                    obtain rfl : r1 = (v0 : Int) := hr1
                    clear hw1
                    go_wp2_with fail
                    refine (HBM.out w1 HI1.out.all.ch).mono ?_
                    rintro e w2 ⟨r2, rfl, hr2, hw2⟩
                    have HI2 := hd (HI1.out.step s2)
                    rw [← hw2] at HI2
                    obtain rfl : r2 = 0 := by rw [hr2]; rfl
                    clear hw2 hr2
                    go_wp2_with fail
                    refine (HVR.out _ _ (rdSS_oneS (HI2.out.own.rd.ext (Ext.alloc (Ext.refl _) _)) (Ext.refl _))).mono ?_
                    rintro e w4 ⟨u4, rfl, hu4, hx4⟩
                    have HI4 := hd (HI2.out.on (Ext.trans (Ext.new _ _) hx4))
                    obtain ⟨A4, c4, rfl, -⟩ := OwnI.form hu4
                    go_wp2_with fail
                    refine (rt (slices_Contains US _ _ _ hu4.rd (by omega)) HQ4).mono ?_
                    rintro e w5 ⟨rfl, rfl⟩
                    cases q4
                    · have HL2 : Hid (L2 = L ++ [sl]) := hd HSL.out
                      have hsz := HI4.out.size
                      go_wp2_with (at_builtin; refine appI w4 HI4.out.own rfl _ _ rfl _ (by rfl) (by rfl) (by omega) hsz ?_; intro v' w9 ho1 hg1 _)
                      have hi9 := HI4.out.app ho1 hg1
                      rw [← HSL2.out, ← HL2.out] at hi9
                      go_roundg km
                      case measure => omega
                      case rel => exact ⟨s2, L2, hi9, HG2.out, HOK2.out, hl2⟩
                    · have HL2 : Hid (L2 = L) := hd (by rw [HSL.out]; rfl)
                      go_wp2
                      go_roundg km
                      case measure => omega
                      case rel => exact ⟨s2, L2, by rw [HL2.out]; exact HI4.out, HG2.out, HOK2.out, hl2⟩
                  · have HSL2 : Hid (sl = (-((v0 : Int) + 1))) := hd (by rw [HSG.out]; simp)
                    go_wp2_with fail
                    refine (HBL.out wr HI.out.all.ch).mono ?_
                    rintro e w1 ⟨r1, rfl, hr1, hw1⟩
                    have HI1 := hd (HI.out.step s1)
                    rw [← hw1] at HI1
                    obtain rfl : r1 = (v0 : Int) := hr1
                    clear hw1
                    go_wp2_with fail
                    refine (HBM.out w1 HI1.out.all.ch).mono ?_
                    rintro e w2 ⟨r2, rfl, hr2, hw2⟩
                    have HI2 := hd (HI1.out.step s2)
                    rw [← hw2] at HI2
                    obtain rfl : r2 = 1 := by rw [hr2]; rfl
                    clear hw2 hr2
                    go_wp2_with fail
                    refine (HVR.out _ _ (rdSS_oneS (HI2.out.own.rd.ext (Ext.alloc (Ext.refl _) _)) (Ext.refl _))).mono ?_
                    rintro e w4 ⟨u4, rfl, hu4, hx4⟩
                    have HI4 := hd (HI2.out.on (Ext.trans (Ext.new _ _) hx4))
                    obtain ⟨A4, c4, rfl, -⟩ := OwnI.form hu4
                    go_wp2_with fail
                    refine (rt (slices_Contains US _ _ _ hu4.rd (by omega)) HQ4).mono ?_
                    rintro e w5 ⟨rfl, rfl⟩
                    cases q4
                    · have HL2 : Hid (L2 = L ++ [sl]) := hd HSL.out
                      have hsz := HI4.out.size
                      go_wp2_with (at_builtin; refine appI w4 HI4.out.own rfl _ _ rfl _ (by rfl) (by rfl) (by omega) hsz ?_; intro v' w9 ho1 hg1 _)
                      have hi9 := HI4.out.app ho1 hg1
                      rw [← HSL2.out, ← HL2.out] at hi9
                      go_roundg km
                      case measure => omega
                      case rel => exact ⟨s2, L2, hi9, HG2.out, HOK2.out, hl2⟩
                    · have HL2 : Hid (L2 = L) := hd (by rw [HSL.out]; rfl)
                      go_wp2
                      go_roundg km
                      case measure => omega
                      case rel => exact ⟨s2, L2, by rw [HL2.out]; exact HI4.out, HG2.out, HOK2.out, hl2⟩
                · obtain rfl := gof_end HG.out hlt2
                  have hd1 : ¬ (L.length : Int) < (D : Int) := by omega
                  clear hlt2
                  go_wp2_with fail
                  refine (i_addC W0 wr bx cb (N : Int) _ ov _ (CS m) L (srtA L) _ HI.out.all.fam HI.out.all.ch HI.out.own.rd (by have e9 : L.length = D := HXL.out; omega) (by omega) (hd (srtA_perm L)) (hd (srtA_pw HOK.out)) (hd (okL_bd HOK.out hN1.2))).mono ?_
                  rintro e w9 ⟨rfl, ov9, hF9, hC9, -⟩
                  go_wp2
                  go_roundw
                  case rel => exact ⟨m + 1, _, by omega, by go_num, by rw [HSN.out, HCN.out]; exact ⟨hF9, hC9, HF.out.cb0⟩⟩
                  case measure => simp [intOf]; omega
            · obtain rfl : m = C := by omega
              have HF := hd HF.out.fam
              have XF := hd HF.out.ext
              have B0 := hd (XF.out.heap R0.out)
              obtain ⟨A9, c9, rfl, h91, h92⟩ := HF.out.own.form
              go_wp2_with fail
              refine (i_cnf W0 _ bx (N : Int) _ _ _ HF.out HGD.out HBD.out).mono ?_
              rintro e w3 ⟨rfl, hx3⟩
              have B3 := hd (hx3.heap B0.out)
              have OW := hd ((HF.out.own.ext hx3).hi_le hx3.size)
              have X3 := hd (X0.out.trans (XF.out.trans hx3))
              obtain ⟨k0, k1⟩ := blk2 B3.out
              obtain ⟨k2, k3⟩ := blk2f B3.out
              have k4 := blk_lt B3.out
              generalize hL : (CS m).length = L at *
              have HC := hd (blk2_set (x' := .int .i64 (N : Int)) (y' := .slice A9 L c9) B3.out)
              have hg3 := grown_set (grown_set (grown_refl w3 (some w.heap.size)) 0 (.int .i64 (N : Int))) 1 (.slice A9 L c9)
              have OW2 := hd (((OW.out.box B3.out (by decide) (by decide) hg3).hi_le hg3.size).lo_le (lo' := w.heap.size) (by omega))
              have X4 := hd (ext_set (i := 1) (ext_set (i := 0) X3.out (Nat.le_refl _) (.int .i64 (N : Int))) (Nat.le_refl _) (.slice A9 L c9))
              clear hx3 hg3 hL
              go_wp2
              obtain ⟨p0, p1⟩ := blk2 HC.out
              exact bodyPost_ret (v := .tuple #[.agg #[.int .i64 (N : Int), .slice A9 L c9], .bool true]) (by simp [results, Try.results18, go_sem, p0, p1]) rfl (by rw [HS.out]; exact ⟨_, rfl, ⟨_, by rw [HV.out], by rw [HV.out]; exact OW2.out⟩, X4.out⟩)
end Go.Proofs.Ytgkifandgacncaa
