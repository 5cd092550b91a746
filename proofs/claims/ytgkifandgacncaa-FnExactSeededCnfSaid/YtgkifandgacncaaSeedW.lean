/-
  SeededCnf: the reference's function. Conditions: none but the machine's integers.
-/
import Derived.Test.YtgkifandgacncaaSeedS
import Derived.Deep.LoopGhost
namespace Go.Proofs.Ytgkifandgacncaa
open Go.RowKit Seed
theorem nxI (s : Nat) : (1021 * (s : Int) + 12345) % 65536 = ((nxt s : Nat) : Int) := by unfold nxt; omega
theorem vvI (n y : Nat) : (y : Int) / 16 % (n : Int) = ((y / 16 % n : Nat) : Int) := by rw [Int.natCast_emod, Int.natCast_ediv]; rfl
theorem sgI (y : Nat) : (y : Int) / 16 % 2 = ((y / 16 % 2 : Nat) : Int) := by omega
theorem seedB_false {w w' : World} {n c d s : Int} (h : seedB n c d s = false) (hx : Ext w w') : RetN w (seedV n c d s) (seedB n c d s) (.returned (.tuple #[.agg #[.int .i64 0, .slice none 0 0], .bool false])) w' :=
  RetN.zero (hd (by unfold seedV; rw [h]; rfl)) hx h
set_option maxRecDepth 100000 in
set_option maxHeartbeats 6400000 in
theorem s_SeededCnf (n c d s : Int) (w : World) (_ : I64 n) (_ : I64 c) (_ : I64 d) (_ : I64 s) : Calls Try.prog 17 #[.int .i64 n, .int .i64 c, .int .i64 d, .int .i64 s] w (RetN w (seedV n c d s) (seedB n c d s)) := by
  have HS : Hid (seedB n c d s = (inB n 1 12 && (inB c 0 60 && (inB d 1 n && inB s 0 9999)))) := hd rfl
  obtain ⟨q0, hq0⟩ : ∃ q, inB n 1 12 = q := ⟨_, rfl⟩
  obtain ⟨q1, hq1⟩ : ∃ q, inB c 0 60 = q := ⟨_, rfl⟩
  obtain ⟨q2, hq2⟩ : ∃ q, inB d 1 n = q := ⟨_, rfl⟩
  obtain ⟨q3, hq3⟩ : ∃ q, inB s 0 9999 = q := ⟨_, rfl⟩
  have HQ0 := hd hq0
  have HQ1 := hd hq1
  have HQ2 := hd hq2
  have HQ3 := hd hq3
  rw [hq0, hq1, hq2, hq3] at HS
  clear hq0 hq1 hq2 hq3
  go_enter Try.func17, Try.ntmps17
  go_wp2_with fail
  refine (rt (s_l1In n 1 12 _) HQ0).mono ?_
  rintro e w1 ⟨rfl, rfl⟩
  cases q0
  · have HB := hd (blk_new (w := w) (.cells #[.int .i64 0, .slice none 0 0] 29) rfl)
    obtain ⟨p0, p1⟩ := blk2 HB.out
    obtain ⟨f0, f1⟩ := blk2f HB.out
    have X1 := hd (Ext.new w (.cells #[.int .i64 0, .slice none 0 0] 29))
    have X4 := hd (ext_set (i := 1) (ext_set (i := 0) X1.out (g := w.heap.size) (Nat.le_refl _) (.int .i64 0)) (g := w.heap.size) (Nat.le_refl _) (.slice none 0 0))
    go_wp2
    exact bodyPost_ret (v := .tuple #[.agg #[.int .i64 0, .slice none 0 0], .bool false]) (by simp [results, Try.results17, go_sem, p0, p1]) rfl (seedB_false (HS.out.trans rfl) (by first | exact X1.out | exact X4.out))
  · go_wp2_with fail
    refine (rt (s_l1In c 0 60 _) HQ1).mono ?_
    rintro e w1 ⟨rfl, rfl⟩
    cases q1
    · have HB := hd (blk_new (w := w) (.cells #[.int .i64 0, .slice none 0 0] 29) rfl)
      obtain ⟨p0, p1⟩ := blk2 HB.out
      obtain ⟨f0, f1⟩ := blk2f HB.out
      have X1 := hd (Ext.new w (.cells #[.int .i64 0, .slice none 0 0] 29))
      have X4 := hd (ext_set (i := 1) (ext_set (i := 0) X1.out (g := w.heap.size) (Nat.le_refl _) (.int .i64 0)) (g := w.heap.size) (Nat.le_refl _) (.slice none 0 0))
      go_wp2
      exact bodyPost_ret (v := .tuple #[.agg #[.int .i64 0, .slice none 0 0], .bool false]) (by simp [results, Try.results17, go_sem, p0, p1]) rfl (seedB_false (HS.out.trans rfl) (by first | exact X1.out | exact X4.out))
    · go_wp2_with fail
      refine (rt (s_l1In d 1 n _) HQ2).mono ?_
      rintro e w1 ⟨rfl, rfl⟩
      cases q2
      · have HB := hd (blk_new (w := w) (.cells #[.int .i64 0, .slice none 0 0] 29) rfl)
        obtain ⟨p0, p1⟩ := blk2 HB.out
        obtain ⟨f0, f1⟩ := blk2f HB.out
        have X1 := hd (Ext.new w (.cells #[.int .i64 0, .slice none 0 0] 29))
        have X4 := hd (ext_set (i := 1) (ext_set (i := 0) X1.out (g := w.heap.size) (Nat.le_refl _) (.int .i64 0)) (g := w.heap.size) (Nat.le_refl _) (.slice none 0 0))
        go_wp2
        exact bodyPost_ret (v := .tuple #[.agg #[.int .i64 0, .slice none 0 0], .bool false]) (by simp [results, Try.results17, go_sem, p0, p1]) rfl (seedB_false (HS.out.trans rfl) (by first | exact X1.out | exact X4.out))
      · go_wp2_with fail
        refine (rt (s_l1In s 0 9999 _) HQ3).mono ?_
        rintro e w1 ⟨rfl, rfl⟩
        cases q3
        · have HB := hd (blk_new (w := w) (.cells #[.int .i64 0, .slice none 0 0] 29) rfl)
          obtain ⟨p0, p1⟩ := blk2 HB.out
          obtain ⟨f0, f1⟩ := blk2f HB.out
          have X1 := hd (Ext.new w (.cells #[.int .i64 0, .slice none 0 0] 29))
          have X4 := hd (ext_set (i := 1) (ext_set (i := 0) X1.out (g := w.heap.size) (Nat.le_refl _) (.int .i64 0)) (g := w.heap.size) (Nat.le_refl _) (.slice none 0 0))
          go_wp2
          exact bodyPost_ret (v := .tuple #[.agg #[.int .i64 0, .slice none 0 0], .bool false]) (by simp [results, Try.results17, go_sem, p0, p1]) rfl (seedB_false (HS.out.trans rfl) (by first | exact X1.out | exact X4.out))
        · have h0 := inB_iff.1 HQ0.out
          have h1 := inB_iff.1 HQ1.out
          have h2 := inB_iff.1 HQ2.out
          have h3 := inB_iff.1 HQ3.out
          clear HQ0 HQ1 HQ2 HQ3
          obtain ⟨N, rfl⟩ := Int.eq_ofNat_of_zero_le (show 0 ≤ n by omega)
          obtain ⟨C, rfl⟩ := Int.eq_ofNat_of_zero_le (show 0 ≤ c by omega)
          obtain ⟨D, rfl⟩ := Int.eq_ofNat_of_zero_le (show 0 ≤ d by omega)
          obtain ⟨S, rfl⟩ := Int.eq_ofNat_of_zero_le (show 0 ≤ s by omega)
          have HV : Hid (seedV (N : Int) (C : Int) (D : Int) (S : Int) = ⟨(N : Int), csS N D S C⟩) := hd (by unfold seedV; rw [HS.out]; rfl)
          have HGD : Hid (goodB ⟨(N : Int), csS N D S C⟩ = true) := hd (csS_good (by omega) (by omega) (by omega))
          have HBD : Hid (Bd_Cnf ⟨(N : Int), csS N D S C⟩) := hd (csS_bd (by omega) (by omega) (by omega))
          have HFL : Hid (∀ s, (finL N D s).2.length = D ∧ OkL N (finL N D s).2) := hd fun s => ⟨finL_len (by omega) (by omega) (by omega), finL_ok (by omega)⟩
          have HFG : Hid (∀ s, gof N D (fuelL N D s) s [] = finL N D s) := hd fun s => rfl
          have HST : Hid (∀ i, stS N D S i < 65536) := hd fun i => stS_lt (by omega) i
          have HS1 : Hid (∀ i, stS N D S (i + 1) = (finL N D (stS N D S i)).1) := hd fun i => rfl
          have HS0 : Hid (stS N D S 0 = S) := hd rfl
          have HC1 : Hid (∀ i, csS N D S (i + 1) = csS N D S i ++ [srtA (finL N D (stS N D S i)).2]) := hd fun i => rfl
          have HC0 : Hid (csS N D S 0 = []) := hd rfl
          have HCL : Hid (∀ i, (csS N D S i).length = i) := hd fun i => csS_len _ _ _ i
          obtain ⟨W0, hW0⟩ : ∃ W0, W0 = w.alloc (.cells #[.int .i64 0, .slice none 0 0] 29) := ⟨_, rfl⟩
          have hz0 : W0.heap.size = w.heap.size + 1 := by rw [hW0]; simp
          have X0 : Hid (Ext w W0) := hd (by rw [hW0]; exact Ext.new _ _)
          have R0 : Hid (W0.heap[w.heap.size]? = some (.cells #[.int .i64 0, .slice none 0 0] 29)) := hd (by rw [hW0]; exact blk_new _ rfl)
          go_wp2_with fail
          rw [← hW0]
          clear hW0
          refine (s_l4New (N : Int) W0).mono ?_
          rintro e w1 ⟨b, rfl, hb, hbl, hx1⟩
          generalize stS N D S = ST at *
          generalize csS N D S = CS at *
          have F0 : Hid (FamB W0 (w1.alloc (.cells #[.int .i64 (N : Int), .slice (some ⟨b, 0, none⟩) 0 0] 29)) w1.heap.size 29 (N : Int) W0.heap.size (.slice (some ⟨b, 0, none⟩) 0 0) (CS 0)) :=
            hd ⟨blk_new _ rfl, by rw [HC0.out]; exact ownSS_emp0 (blk_old hbl) hb, hx1.alloc _, hx1.size, Nat.le_refl _, by have := hx1.size; simp; omega⟩
          have hs1 := hx1.size
          clear hbl hx1
          have hN1 : 1 ≤ N ∧ N ≤ 12 := by omega
          have hC60 : C ≤ 60 := by omega
          have hD12 : D ≤ 12 := by omega
          have H0 := hd HST.out
          clear h0 h1 h2 h3
          go_wp2
          generalize hbx : w1.heap.size = bx at *
          have hbx0 : w.heap.size + 1 ≤ bx := by omega
          clear hbx
          go_loopw [11, 12] (fun sv i wr => ∃ (m : Nat) (ov : Value), m ≤ C ∧ i = .int .i64 (m : Int) ∧ sv = .int .i64 (ST m : Int) ∧ FamB W0 wr bx 29 (N : Int) W0.heap.size ov (CS m)) (fun _ i _ => C - (intOf i).toNat)
          case atStart => exact ⟨0, _, by omega, rfl, by rw [HS0.out], F0.out⟩
          case round =>
            clear F0
            obtain ⟨m, ov, hm, rfl, rfl, hF⟩ := hrel
            have HF := hd hF
            clear hF
            have hst := HST.out m
            obtain ⟨hXl, hXo⟩ := HFL.out (ST m)
            have HXL := hd hXl
            have HXO := hd hXo
            have HG0 := hd (HFG.out (ST m))
            have HSN := hd (HS1.out m)
            have HCN := hd (HC1.out m)
            have hcl := HCL.out m
            have hc60 : (CS m).length ≤ 60 := by omega
            clear hcl hXl hXo
            by_cases hlt : m < C
            · generalize hX : finL N D (ST m) = X at *
              generalize fuelL N D (ST m) = k0 at *
              generalize ST m = st0 at *
              clear hX
              obtain ⟨wo, rfl⟩ : ∃ wo : World, wo = wr := ⟨_, rfl⟩
              have E0 : Hid (OwnI (wo.alloc (.cells #[] 3)) wo.heap.size 3 (.slice (some ⟨wo.heap.size, 0, none⟩) 0 0) (srtA [])) := hd (ownI_lit0 (Nat.le_refl _))
              have hml : (m : Int) < (C : Int) := by omega
              go_wp2
              go_loopg [11, 13] k0 (fun k sv cv wr => ∃ (st : Nat) (L : List Int) (a : Addr) (c : Nat), sv = .int .i64 (st : Int) ∧ cv = .slice (some a) L.length c ∧ OwnI wr wo.heap.size 3 (.slice (some a) L.length c) (srtA L) ∧ Ext wo wr ∧ gof N D k st L = X ∧ OkL N L ∧ st < 65536)
              case atStart => exact ⟨st0, [], _, _, rfl, rfl, E0.out, Ext.new _ _, HG0.out, okL_nil _, hst⟩
              case round =>
                obtain ⟨st, L, a, c, rfl, rfl, ho, hx, hg, hok, hstl⟩ := hrel
                have HO := hd ho
                have HX := hd hx
                have HG := hd hg
                have HOK := hd hok
                clear ho hx hg hok E0
                have hsl := srtA_len L
                by_cases hlt2 : L.length < D
                · obtain ⟨km, rfl, hg2⟩ := gof_round HG.out HXL.out hlt2
                  have HG2 := hd hg2
                  have HOK2 := hd (okL_stp (s := st) hN1.1 HOK.out)
                  have hd1 : (L.length : Int) < (D : Int) := by omega
                  have n1 := nxI st
                  have n2 := nxI (nxt st)
                  have n3 := vvI N (nxt st)
                  have n4 := sgI (nxt (nxt st))
                  have hl1 := nxt_lt st
                  have hl2 := nxt_lt (nxt st)
                  have hvb := vv_bd hN1.1 st
                  have hvv : vv N st = nxt st / 16 % N + 1 := rfl
                  have hng : ng st = decide (nxt (nxt st) / 16 % 2 = 1) := rfl
                  have hsg : sg N st = if ng st then -((vv N st : Nat) : Int) else ((vv N st : Nat) : Int) := rfl
                  have hsl0 : stpL N st L = if seenV L (nxt st / 16 % N + 1) then L else L ++ [sg N st] := rfl
                  have hse : (hasI (srtA L) (vv N st : Int) || hasI (srtA L) (-(vv N st : Int))) = seenV L (vv N st) := seen_has
                  have HLB := hd (okL_bd HOK.out hN1.2)
                  have hm2 : nxt (nxt st) / 16 % 2 < 2 := Nat.mod_lt _ (by decide)
                  rw [hvv] at hsg hse hvb
                  have ev : ((nxt st / 16 % N + 1 : Nat) : Int) = ((nxt st / 16 % N : Nat) : Int) + 1 := by omega
                  rw [ev] at hsg hse
                  rw [hng] at hsg
                  rw [← hse] at hsl0
                  have HSL := hd hsl0
                  have HSG := hd hsg
                  clear hg2 hng hsg hse hvv ev HG hsl0
                  generalize nxt (nxt st) / 16 % 2 = b2 at *
                  generalize nxt st / 16 % N = v0 at *
                  generalize nxt (nxt st) = s2 at *
                  generalize nxt st = s1 at *
                  generalize sg N st = sl at *
                  generalize stpL N st L = L2 at *
                  obtain ⟨q4, hq4⟩ : ∃ q, hasI (srtA L) ((v0 : Int) + 1) = q := ⟨_, rfl⟩
                  obtain ⟨q5, hq5⟩ : ∃ q, hasI (srtA L) (-((v0 : Int) + 1)) = q := ⟨_, rfl⟩
                  have HQ4 := hd hq4
                  have HQ5 := hd hq5
                  rw [hq4, hq5] at HSL
                  clear hq4 hq5
                  have hml2 : L.length ≤ 12 := by omega
                  have hcases : b2 = 0 ∨ b2 = 1 := by omega
                  clear hm2
                  have hvl : (v0 : Int) + 1 ≤ 12 := by omega
                  rcases hcases with rfl | rfl
                  · have HSL2 : Hid (sl = ((v0 : Int) + 1)) := hd (by rw [HSG.out]; simp)
                    go_wp2_with fail
                    refine (rt (s_l2Has (srtA L) _ _ _ HO.out.rd (by omega)) HQ4).mono ?_
                    rintro e w1 ⟨rfl, rfl⟩
                    cases q4
                    · go_wp2_with fail
                      refine (rt (s_l2Has (srtA L) _ _ _ HO.out.rd (by omega)) HQ5).mono ?_
                      rintro e w1 ⟨rfl, rfl⟩
                      cases q5
                      · have HL2 : Hid (L2 = L ++ [sl]) := hd HSL.out
                        have hpu := s_l2Put (srtA L) a c ((v0 : Int) + 1) wr (by rw [hsl]; exact HO.out.rd) (by omega) HLB.out (by omega)
                        rw [hsl] at hpu
                        have HPU := hd hpu
                        clear hpu
                        go_wp2_with fail
                        refine HPU.out.mono ?_
                        rintro e w5 ⟨u5, rfl, hu5, hx5⟩
                        rw [← HSL2.out, ← srtA_snoc, ← HL2.out] at hu5
                        have hl2 : (srtA L2).length = L2.length := srtA_len L2
                        obtain ⟨a5, c5, e5⟩ := OwnI.some_ hu5 (by rw [hl2, HL2.out]; simp)
                        rw [hl2] at e5
                        subst e5
                        go_wp2
                        go_roundg km
                        case measure => omega
                        case rel => exact ⟨s2, L2, a5, c5, rfl, rfl, own_rebase hu5 HX.out.size, HX.out.trans hx5, HG2.out, HOK2.out, by omega⟩
                      · have HL2 : Hid (L2 = L) := hd HSL.out
                        go_wp2
                        go_roundg km
                        case measure => omega
                        case rel => exact ⟨s2, L2, a, c, rfl, by rw [HL2.out], by rw [HL2.out]; exact HO.out, HX.out, HG2.out, HOK2.out, by omega⟩
                    · have HL2 : Hid (L2 = L) := hd (by rw [HSL.out]; rfl)
                      go_wp2
                      go_roundg km
                      case measure => omega
                      case rel => exact ⟨s2, L2, a, c, rfl, by rw [HL2.out], by rw [HL2.out]; exact HO.out, HX.out, HG2.out, HOK2.out, by omega⟩
                  · have HSL2 : Hid (sl = (-((v0 : Int) + 1))) := hd (by rw [HSG.out]; simp)
                    go_wp2_with fail
                    refine (rt (s_l2Has (srtA L) _ _ _ HO.out.rd (by omega)) HQ4).mono ?_
                    rintro e w1 ⟨rfl, rfl⟩
                    cases q4
                    · go_wp2_with fail
                      refine (rt (s_l2Has (srtA L) _ _ _ HO.out.rd (by omega)) HQ5).mono ?_
                      rintro e w1 ⟨rfl, rfl⟩
                      cases q5
                      · have HL2 : Hid (L2 = L ++ [sl]) := hd HSL.out
                        have hpu := s_l2Put (srtA L) a c (-((v0 : Int) + 1)) wr (by rw [hsl]; exact HO.out.rd) (by omega) HLB.out (by omega)
                        rw [hsl] at hpu
                        have HPU := hd hpu
                        clear hpu
                        go_wp2_with fail
                        refine HPU.out.mono ?_
                        rintro e w5 ⟨u5, rfl, hu5, hx5⟩
                        rw [← HSL2.out, ← srtA_snoc, ← HL2.out] at hu5
                        have hl2 : (srtA L2).length = L2.length := srtA_len L2
                        obtain ⟨a5, c5, e5⟩ := OwnI.some_ hu5 (by rw [hl2, HL2.out]; simp)
                        rw [hl2] at e5
                        subst e5
                        go_wp2
                        go_roundg km
                        case measure => omega
                        case rel => exact ⟨s2, L2, a5, c5, rfl, rfl, own_rebase hu5 HX.out.size, HX.out.trans hx5, HG2.out, HOK2.out, by omega⟩
                      · have HL2 : Hid (L2 = L) := hd HSL.out
                        go_wp2
                        go_roundg km
                        case measure => omega
                        case rel => exact ⟨s2, L2, a, c, rfl, by rw [HL2.out], by rw [HL2.out]; exact HO.out, HX.out, HG2.out, HOK2.out, by omega⟩
                    · have HL2 : Hid (L2 = L) := hd (by rw [HSL.out]; rfl)
                      go_wp2
                      go_roundg km
                      case measure => omega
                      case rel => exact ⟨s2, L2, a, c, rfl, by rw [HL2.out], by rw [HL2.out]; exact HO.out, HX.out, HG2.out, HOK2.out, by omega⟩
                · obtain rfl := gof_end HG.out hlt2
                  have hLD : (srtA L).length = L.length := hsl
                  obtain ⟨c0, c1⟩ := blk2 (HF.out.on HX.out).blk
                  have hd1 : ¬ (L.length : Int) < (D : Int) := by omega
                  have HRZ := hd ((RowsZ.one HO.out).ext (Ext.new wr (.cells #[.slice (some a) L.length c] 23)))
                  clear hlt2 hsl
                  go_wp2_with (at_builtin; refine appFZ (zs := [(.slice (some a) L.length c, srtA L)]) HF.out (by decide) (by decide) (HX.out.trans (Ext.new _ _)) (HRZ.out.hi_size) (Nat.le_refl _) (rdZ_at (us := [.slice (some a) L.length c]) (heap_n1 _ _) (by simp)) rfl _ _ rfl (by rfl) (by rfl) (by simp; omega) ?_
                               intro L9 A9 c9 w9 _ hb9 HP X9 _
                               obtain ⟨q0, q1⟩ := blk2 hb9
                               obtain ⟨q2, q3⟩ := blk2f hb9
                               have q4 := blk_lt hb9)
                  clear q0 q1 q2 q3 c0 c1
                  go_roundw
                  case rel => exact ⟨m + 1, _, by omega, by go_num, by rw [HSN.out], by rw [HCN.out]; exact HP.out⟩
                  case measure => simp [intOf]; omega
            · obtain rfl : m = C := by omega
              have XF := hd HF.out.ext
              have B0 := hd (XF.out.heap R0.out)
              obtain ⟨A9, c9, rfl, h91, h92⟩ := HF.out.own.form
              obtain ⟨c0, c1⟩ := blk2 HF.out.blk
              go_wp2_with fail
              refine (s_l4Give ⟨(N : Int), CS m⟩ _ _ HF.out.own.rd HGD.out HBD.out).mono ?_
              rintro e w3 ⟨rfl, hx3⟩
              have B3 := hd (hx3.heap B0.out)
              have OW := hd ((HF.out.own.ext hx3).hi_le hx3.size)
              have X3 := hd (X0.out.trans (XF.out.trans hx3))
              clear c0 c1
              obtain ⟨k0, k1⟩ := blk2 B3.out
              obtain ⟨k2, k3⟩ := blk2f B3.out
              have k4 := blk_lt B3.out
              generalize hL : (CS m).length = L at *
              have HC := hd (blk2_set (x' := .int .i64 (N : Int)) (y' := .slice A9 L c9) B3.out)
              have hg3 := grown_set (grown_set (grown_refl w3 (some w.heap.size)) 0 (.int .i64 (N : Int))) 1 (.slice A9 L c9)
              have OW2 := hd (((OW.out.box B3.out (by decide) (by decide) hg3).hi_le hg3.size).lo_le (lo' := w.heap.size) (by omega))
              have X4 := hd (ext_set (i := 1) (ext_set (i := 0) X3.out (Nat.le_refl _) (.int .i64 (N : Int))) (Nat.le_refl _) (.slice A9 L c9))
              clear hx3 hg3 hL
              go_wp2
              obtain ⟨p0, p1⟩ := blk2 HC.out
              exact bodyPost_ret (v := .tuple #[.agg #[.int .i64 (N : Int), .slice A9 L c9], .bool true]) (by simp [results, Try.results17, go_sem, p0, p1]) rfl (by rw [HS.out]; exact ⟨_, rfl, ⟨_, by rw [HV.out], by rw [HV.out]; exact OW2.out⟩, X4.out⟩)
end Go.Proofs.Ytgkifandgacncaa
