/-
  The first bits for which a circuit is no interpolant: both sides; FirstBrokenSide of both sides. Conditions: sizes up to 2^20.
-/
import Derived.Test.YtjeeffmpfdhppaaCircV
import Derived.Test.YtjeeffmpfdhppaaSharedI
import Derived.Test.YtjeeffmpfdhppaaQuietX
import Derived.BigQuiet
import Derived.IntWalk
namespace Go.Proofs.Ytjeeffmpfdhppaa
open Go.RowKit
def firstN (p : Nat → Bool) : Nat → Nat → Int
  | _, 0 => -1
  | i, c + 1 => if p i then (i : Int) else firstN p (i + 1) c
theorem firstN_step {p : Nat → Bool} {i M : Nat} (h : i < M) : firstN p i (M - i) = if p i then (i : Int) else firstN p (i + 1) (M - (i + 1)) := by
  rw [show M - i = (M - (i + 1)) + 1 from by omega]
  rfl
theorem firstN_bd (p : Nat → Bool) : ∀ (c i : Nat), -1 ≤ firstN p i c ∧ firstN p i c < (i : Int) + c
  | 0, i => by unfold firstN; omega
  | c + 1, i => by
    unfold firstN
    split
    · omega
    · have := firstN_bd p c (i + 1); omega
def brkB (f : Cnf) (k : Nat) (gs : List Gat) (b : Nat) : Bool := if circV b gs then allT b (f.cs.drop k) else allT b (f.cs.take k)
def brkN (f : Cnf) (k : Nat) (gs : List Gat) : Int := firstN (brkB f k gs) 0 (2 ^ f.n.toNat)
set_option maxRecDepth 100000 in
set_option maxHeartbeats 6400000 in
theorem s_l29Broken (f : Cnf) (v gv : Value) (k : Nat) (gs : List Gat) (w : World) (h : Rd_Cnf w v f) (hgs : Rd_GateS w gv gs) (b : Bd_Cnf f) (hg : goodB f = true) (hk : k ≤ f.cs.length) (hc : circB f.n gs = true) :
    Calls Try.prog 66 #[v, .int .i64 k, gv] w (RetX w (.int .i64 (brkN f k gs))) := by
  obtain ⟨hn0, hn12, hl60, -⟩ := good_inv hg
  obtain ⟨vc, rfl, hC⟩ := h
  obtain ⟨A, c, rfl, h1, h2, ha⟩ := hC.form
  have HGS := hd hgs
  have HLI : Hid (∀ c ∈ f.cs, ∀ l ∈ c, -(f.n) ≤ l ∧ l ≤ f.n ∧ l ≠ 0) := hd fun c hc l hl => (clause_inv ((good_inv hg).2.2.2 c hc)).2.2.1 l hl
  have HLN : Hid (∀ c ∈ f.cs, c.length ≤ 1073741824) := hd fun c hc => by have := good_len hg c hc; omega
  have HCV : Hid (∀ (b : Nat) (w' : World), b < 1000000 → Rd_GateS w' gv gs → Calls Try.prog 58 #[gv, .int .i64 b] w' (RetX w' (.bool (circV b gs)))) := hd fun b w' hb hr => s_l6Value f.n gs gv b w' hr hc hb
  have hbr : ∀ b, brkB f k gs b = if circV b gs then allT b (f.cs.drop k) else allT b (f.cs.take k) := fun _ => rfl
  have HBR := hd hbr
  clear hbr
  have hN : brkN f k gs = firstN (brkB f k gs) 0 (2 ^ f.n.toNat) := rfl
  have HN0 := hd hN
  clear hN
  generalize brkN f k gs = R at *
  generalize brkB f k gs = P at *
  obtain ⟨n, cs⟩ := f
  simp only at *
  have hTL : (cs.take k).length ≤ 1073741824 := Nat.le_trans (List.length_take_le _ _) (by omega)
  have hDL : (cs.drop k).length ≤ 1073741824 := Nat.le_trans (by simp) (Nat.le_trans hl60 (by decide))
  obtain ⟨m, rfl⟩ := Int.eq_ofNat_of_zero_le hn0
  rw [Int.toNat_natCast] at *
  have hm12 : m ≤ 12 := by omega
  have hpm := wrap_pow (m := m) (by omega)
  have hp12 := pow12 (k := m) (by omega)
  have HLT : Hid (∀ (b : Nat) (w' : World) (u : Value), b < 1000000 → RdSS w' u (cs.take k) → Calls Try.prog 123 #[u, .int .i64 m, .int .i64 b] w' (RetX w' (.bool (allT b (cs.take k))))) := hd fun b w' u hb hr =>
    s_l29True (cs.take k) u m b w' hr hTL (hd fun c hc => HLN.out c (List.mem_of_mem_take hc)) (hd fun c hc => HLI.out c (List.mem_of_mem_take hc)) hm12 hb
  have HLD : Hid (∀ (b : Nat) (w' : World) (u : Value), b < 1000000 → RdSS w' u (cs.drop k) → Calls Try.prog 123 #[u, .int .i64 m, .int .i64 b] w' (RetX w' (.bool (allT b (cs.drop k))))) := hd fun b w' u hb hr =>
    s_l29True (cs.drop k) u m b w' hr hDL (hd fun c hc => HLN.out c (List.mem_of_mem_drop hc)) (hd fun c hc => HLI.out c (List.mem_of_mem_drop hc)) hm12 hb
  generalize hM : 2 ^ m = M at *
  clear hM hC b hg hc hgs HLI HLN
  have e1 : (0 : Int) ≤ (k : Int) := by omega
  have e2 : (k : Int) ≤ (cs.length : Int) := by omega
  rcases rdSS_cut ha.out hk with ⟨rfl, h0, rfl⟩ | ⟨a, rfl, rfl, hck⟩ | ⟨a, rfl, hck⟩
  · subst h0
    have HL : Hid (RdSS w (.slice none 0 c) (([] : List (List Int)).take 0)) := hd (rdSS_takeZ h2)
    have HRR : Hid (RdSS w (.slice none 0 c) (([] : List (List Int)).drop 0)) := hd (rdSS_dropZ (by simp) h2)
    have HN : Hid (([] : List (List Int)).length = 0) := hd rfl
    have HB0 := hd (blk_new (w := w) (.cells #[.int .i64 (m : Int), .slice none 0 c] 31) rfl)
    have X0 : Hid (Ext w (w.alloc (.cells #[.int .i64 (m : Int), .slice none 0 c] 31))) := hd (Ext.new _ _)
    try rw [show ((0 : Nat) : Int) = 0 from rfl]
    go_enter Try.func66, Try.ntmps66
    go_wp2
    go_loopw [7, 8] (fun i _ wr => ∃ K : Nat, K ≤ M ∧ i = .int .i64 K ∧ Hid (R = firstN P K (M - K)) ∧ wr.heap[w.heap.size]? = some (.cells #[.int .i64 (m : Int), .slice none 0 c] 31) ∧ Ext w wr) (fun i _ _ => M - (intOf i).toNat)
    case atStart => exact ⟨0, by omega, rfl, HN0, HB0.out, X0.out⟩
    case round =>
      clear HB0 X0
      obtain ⟨K, hK, rfl, HR, hB, hx⟩ := hrel
      have HX := hd hx
      have HB := hd hB
      obtain ⟨c0, c1⟩ := blk2 hB
      clear hx hB
      by_cases hlt : K < M
      · rw [firstN_step hlt] at HR
        have HPK := hd (HBR.out K)
        obtain ⟨q, hq⟩ : ∃ q, circV K gs = q := ⟨_, rfl⟩
        have HQ := hd hq
        rw [hq] at HPK
        clear hq
        go_wp2_with fail
        refine (rtx (HCV.out K _ (by omega) (HGS.out.ext HX.out)) HQ).mono ?_
        rintro e w2 ⟨rfl, hx2⟩
        have HX2 := hd (HX.out.trans hx2)
        have HB2 := hd (hx2.heap HB.out)
        clear c0 c1 hx2
        obtain ⟨c0, c1⟩ := blk2 HB2.out
        have p0 : ∀ p : ExtOf w2, p.v.cell? ⟨w.heap.size, 0, none⟩ = _ := fun p => p.h.cell c0
        have p1 : ∀ p : ExtOf w2, p.v.cell? ⟨w.heap.size, 1, none⟩ = _ := fun p => p.h.cell c1
        cases q
        · obtain ⟨r, hr⟩ : ∃ r, allT K (([] : List (List Int)).take 0) = r := ⟨_, rfl⟩
          have HRR2 := hd hr
          have HPK' : Hid (P K = r) := hd (by rw [HPK.out]; exact hr)
          clear hr HPK
          cases r
          · go_wp2_with fail
            refine wp_region_quiet_ext (by kernel_rfl) (by kernel_rfl) ?_
            repeat (go_big_quiet_step ((go_at_call 123; exact ext_call (rtx (HLT.out K _ _ (by omega) (HL.out.ext (HX2.out.trans (ExtOf.h _)))) HRR2))))
            refine wpQuiet_nil ?_
            rintro _ ⟨⟨w3, hx3⟩, rfl⟩
            have X3 := hd (HX2.out.trans hx3)
            have B3 := hd (hx3.heap HB2.out)
            clear c0 c1 p0 p1 hx3
            go_wp2
            go_roundw
            case rel => exact ⟨K + 1, by omega, by go_num, hd (by rw [HR.out, HPK'.out]; rfl), B3.out, X3.out⟩
            case measure => simp [intOf]; omega
          · go_wp2_with fail
            refine wp_region_quiet_ext (by kernel_rfl) (by kernel_rfl) ?_
            repeat (go_big_quiet_step ((go_at_call 123; exact ext_call (rtx (HLT.out K _ _ (by omega) (HL.out.ext (HX2.out.trans (ExtOf.h _)))) HRR2))))
            refine wpQuiet_nil ?_
            rintro _ ⟨⟨w3, hx3⟩, rfl⟩
            have X3 := hd (HX2.out.trans hx3)
            have B3 := hd (hx3.heap HB2.out)
            clear c0 c1 p0 p1 hx3
            go_wp2
            go_ret
            exact RetX.mk (by rw [HR.out, HPK'.out]; rfl) X3.out
        · obtain ⟨r, hr⟩ : ∃ r, allT K (([] : List (List Int)).drop 0) = r := ⟨_, rfl⟩
          have HRR2 := hd hr
          have HPK' : Hid (P K = r) := hd (by rw [HPK.out]; exact hr)
          clear hr HPK
          cases r
          · go_wp2_with fail
            refine wp_region_quiet_ext (by kernel_rfl) (by kernel_rfl) ?_
            repeat (go_big_quiet_step ((go_at_call 123; exact ext_call (rtx (HLD.out K _ _ (by omega) (HRR.out.ext (HX2.out.trans (ExtOf.h _)))) HRR2))))
            refine wpQuiet_nil ?_
            rintro _ ⟨⟨w3, hx3⟩, rfl⟩
            have X3 := hd (HX2.out.trans hx3)
            have B3 := hd (hx3.heap HB2.out)
            clear c0 c1 p0 p1 hx3
            go_wp2
            go_roundw
            case rel => exact ⟨K + 1, by omega, by go_num, hd (by rw [HR.out, HPK'.out]; rfl), B3.out, X3.out⟩
            case measure => simp [intOf]; omega
          · go_wp2_with fail
            refine wp_region_quiet_ext (by kernel_rfl) (by kernel_rfl) ?_
            repeat (go_big_quiet_step ((go_at_call 123; exact ext_call (rtx (HLD.out K _ _ (by omega) (HRR.out.ext (HX2.out.trans (ExtOf.h _)))) HRR2))))
            refine wpQuiet_nil ?_
            rintro _ ⟨⟨w3, hx3⟩, rfl⟩
            have X3 := hd (HX2.out.trans hx3)
            have B3 := hd (hx3.heap HB2.out)
            clear c0 c1 p0 p1 hx3
            go_wp2
            go_ret
            exact RetX.mk (by rw [HR.out, HPK'.out]; rfl) X3.out
      · obtain rfl : K = M := by omega
        go_wp2
        go_ret
        exact RetX.mk (by rw [HR.out, Nat.sub_self]; rfl) HX.out
  · generalize hN : cs.length = N at *
    obtain rfl : N = c := by omega
    have HN := hd hN
    clear hN hck
    have HL := hd (rdSS_take (n := N) ha.out (by rw [HN.out]; exact Nat.le_refl N) : RdSS w (.slice (some a) N N) (cs.take N))
    have HRR := hd (rdSS_dropZ (A := some a) (k := N) (c := 0) (xss := cs) (w := w) (by rw [HN.out]; exact Nat.le_refl _) (Nat.zero_le _))
    have HB0 := hd (blk_new (w := w) (.cells #[.int .i64 (m : Int), .slice (some a) N N] 31) rfl)
    have X0 : Hid (Ext w (w.alloc (.cells #[.int .i64 (m : Int), .slice (some a) N N] 31))) := hd (Ext.new _ _)
    try rw [show ((0 : Nat) : Int) = 0 from rfl]
    go_enter Try.func66, Try.ntmps66
    go_wp2
    go_loopw [7, 8] (fun i _ wr => ∃ K : Nat, K ≤ M ∧ i = .int .i64 K ∧ Hid (R = firstN P K (M - K)) ∧ wr.heap[w.heap.size]? = some (.cells #[.int .i64 (m : Int), .slice (some a) N N] 31) ∧ Ext w wr) (fun i _ _ => M - (intOf i).toNat)
    case atStart => exact ⟨0, by omega, rfl, HN0, HB0.out, X0.out⟩
    case round =>
      clear HB0 X0
      obtain ⟨K, hK, rfl, HR, hB, hx⟩ := hrel
      have HX := hd hx
      have HB := hd hB
      obtain ⟨c0, c1⟩ := blk2 hB
      clear hx hB
      by_cases hlt : K < M
      · rw [firstN_step hlt] at HR
        have HPK := hd (HBR.out K)
        obtain ⟨q, hq⟩ : ∃ q, circV K gs = q := ⟨_, rfl⟩
        have HQ := hd hq
        rw [hq] at HPK
        clear hq
        go_wp2_with fail
        refine (rtx (HCV.out K _ (by omega) (HGS.out.ext HX.out)) HQ).mono ?_
        rintro e w2 ⟨rfl, hx2⟩
        have HX2 := hd (HX.out.trans hx2)
        have HB2 := hd (hx2.heap HB.out)
        clear c0 c1 hx2
        obtain ⟨c0, c1⟩ := blk2 HB2.out
        have p0 : ∀ p : ExtOf w2, p.v.cell? ⟨w.heap.size, 0, none⟩ = _ := fun p => p.h.cell c0
        have p1 : ∀ p : ExtOf w2, p.v.cell? ⟨w.heap.size, 1, none⟩ = _ := fun p => p.h.cell c1
        cases q
        · obtain ⟨r, hr⟩ : ∃ r, allT K (cs.take N) = r := ⟨_, rfl⟩
          have HRR2 := hd hr
          have HPK' : Hid (P K = r) := hd (by rw [HPK.out]; exact hr)
          clear hr HPK
          cases r
          · go_wp2_with fail
            refine wp_region_quiet_ext (by kernel_rfl) (by kernel_rfl) ?_
            repeat (go_big_quiet_step ((go_at_call 123; exact ext_call (rtx (HLT.out K _ _ (by omega) (HL.out.ext (HX2.out.trans (ExtOf.h _)))) HRR2))))
            refine wpQuiet_nil ?_
            rintro _ ⟨⟨w3, hx3⟩, rfl⟩
            have X3 := hd (HX2.out.trans hx3)
            have B3 := hd (hx3.heap HB2.out)
            clear c0 c1 p0 p1 hx3
            go_wp2
            go_roundw
            case rel => exact ⟨K + 1, by omega, by go_num, hd (by rw [HR.out, HPK'.out]; rfl), B3.out, X3.out⟩
            case measure => simp [intOf]; omega
          · go_wp2_with fail
            refine wp_region_quiet_ext (by kernel_rfl) (by kernel_rfl) ?_
            repeat (go_big_quiet_step ((go_at_call 123; exact ext_call (rtx (HLT.out K _ _ (by omega) (HL.out.ext (HX2.out.trans (ExtOf.h _)))) HRR2))))
            refine wpQuiet_nil ?_
            rintro _ ⟨⟨w3, hx3⟩, rfl⟩
            have X3 := hd (HX2.out.trans hx3)
            have B3 := hd (hx3.heap HB2.out)
            clear c0 c1 p0 p1 hx3
            go_wp2
            go_ret
            exact RetX.mk (by rw [HR.out, HPK'.out]; rfl) X3.out
        · obtain ⟨r, hr⟩ : ∃ r, allT K (cs.drop N) = r := ⟨_, rfl⟩
          have HRR2 := hd hr
          have HPK' : Hid (P K = r) := hd (by rw [HPK.out]; exact hr)
          clear hr HPK
          cases r
          · go_wp2_with fail
            refine wp_region_quiet_ext (by kernel_rfl) (by kernel_rfl) ?_
            repeat (go_big_quiet_step ((go_at_call 123; exact ext_call (rtx (HLD.out K _ _ (by omega) (HRR.out.ext (HX2.out.trans (ExtOf.h _)))) HRR2))))
            refine wpQuiet_nil ?_
            rintro _ ⟨⟨w3, hx3⟩, rfl⟩
            have X3 := hd (HX2.out.trans hx3)
            have B3 := hd (hx3.heap HB2.out)
            clear c0 c1 p0 p1 hx3
            go_wp2
            go_roundw
            case rel => exact ⟨K + 1, by omega, by go_num, hd (by rw [HR.out, HPK'.out]; rfl), B3.out, X3.out⟩
            case measure => simp [intOf]; omega
          · go_wp2_with fail
            refine wp_region_quiet_ext (by kernel_rfl) (by kernel_rfl) ?_
            repeat (go_big_quiet_step ((go_at_call 123; exact ext_call (rtx (HLD.out K _ _ (by omega) (HRR.out.ext (HX2.out.trans (ExtOf.h _)))) HRR2))))
            refine wpQuiet_nil ?_
            rintro _ ⟨⟨w3, hx3⟩, rfl⟩
            have X3 := hd (HX2.out.trans hx3)
            have B3 := hd (hx3.heap HB2.out)
            clear c0 c1 p0 p1 hx3
            go_wp2
            go_ret
            exact RetX.mk (by rw [HR.out, HPK'.out]; rfl) X3.out
      · obtain rfl : K = M := by omega
        go_wp2
        go_ret
        exact RetX.mk (by rw [HR.out, Nat.sub_self]; rfl) HX.out
  · have HN : Hid (cs.length = cs.length) := hd rfl
    have HL := hd (rdSS_take ha.out hk)
    have HRR := hd (rdSS_drop ha.out hk)
    have hkc : k ≤ c := by omega
    have hkn : ¬ c = k := by omega
    have HB0 := hd (blk_new (w := w) (.cells #[.int .i64 (m : Int), .slice (some a) cs.length c] 31) rfl)
    have X0 : Hid (Ext w (w.alloc (.cells #[.int .i64 (m : Int), .slice (some a) cs.length c] 31))) := hd (Ext.new _ _)
    try rw [show ((0 : Nat) : Int) = 0 from rfl]
    go_enter Try.func66, Try.ntmps66
    go_wp2
    go_loopw [7, 8] (fun i _ wr => ∃ K : Nat, K ≤ M ∧ i = .int .i64 K ∧ Hid (R = firstN P K (M - K)) ∧ wr.heap[w.heap.size]? = some (.cells #[.int .i64 (m : Int), .slice (some a) cs.length c] 31) ∧ Ext w wr) (fun i _ _ => M - (intOf i).toNat)
    case atStart => exact ⟨0, by omega, rfl, HN0, HB0.out, X0.out⟩
    case round =>
      clear HB0 X0
      obtain ⟨K, hK, rfl, HR, hB, hx⟩ := hrel
      have HX := hd hx
      have HB := hd hB
      obtain ⟨c0, c1⟩ := blk2 hB
      clear hx hB
      by_cases hlt : K < M
      · rw [firstN_step hlt] at HR
        have HPK := hd (HBR.out K)
        obtain ⟨q, hq⟩ : ∃ q, circV K gs = q := ⟨_, rfl⟩
        have HQ := hd hq
        rw [hq] at HPK
        clear hq
        go_wp2_with fail
        refine (rtx (HCV.out K _ (by omega) (HGS.out.ext HX.out)) HQ).mono ?_
        rintro e w2 ⟨rfl, hx2⟩
        have HX2 := hd (HX.out.trans hx2)
        have HB2 := hd (hx2.heap HB.out)
        clear c0 c1 hx2
        obtain ⟨c0, c1⟩ := blk2 HB2.out
        have p0 : ∀ p : ExtOf w2, p.v.cell? ⟨w.heap.size, 0, none⟩ = _ := fun p => p.h.cell c0
        have p1 : ∀ p : ExtOf w2, p.v.cell? ⟨w.heap.size, 1, none⟩ = _ := fun p => p.h.cell c1
        cases q
        · obtain ⟨r, hr⟩ : ∃ r, allT K (cs.take k) = r := ⟨_, rfl⟩
          have HRR2 := hd hr
          have HPK' : Hid (P K = r) := hd (by rw [HPK.out]; exact hr)
          clear hr HPK
          cases r
          · go_wp2_with fail
            refine wp_region_quiet_ext (by kernel_rfl) (by kernel_rfl) ?_
            repeat (go_big_quiet_step ((go_at_call 123; exact ext_call (rtx (HLT.out K _ _ (by omega) (HL.out.ext (HX2.out.trans (ExtOf.h _)))) HRR2))))
            refine wpQuiet_nil ?_
            rintro _ ⟨⟨w3, hx3⟩, rfl⟩
            have X3 := hd (HX2.out.trans hx3)
            have B3 := hd (hx3.heap HB2.out)
            clear c0 c1 p0 p1 hx3
            go_wp2
            go_roundw
            case rel => exact ⟨K + 1, by omega, by go_num, hd (by rw [HR.out, HPK'.out]; rfl), B3.out, X3.out⟩
            case measure => simp [intOf]; omega
          · go_wp2_with fail
            refine wp_region_quiet_ext (by kernel_rfl) (by kernel_rfl) ?_
            repeat (go_big_quiet_step ((go_at_call 123; exact ext_call (rtx (HLT.out K _ _ (by omega) (HL.out.ext (HX2.out.trans (ExtOf.h _)))) HRR2))))
            refine wpQuiet_nil ?_
            rintro _ ⟨⟨w3, hx3⟩, rfl⟩
            have X3 := hd (HX2.out.trans hx3)
            have B3 := hd (hx3.heap HB2.out)
            clear c0 c1 p0 p1 hx3
            go_wp2
            go_ret
            exact RetX.mk (by rw [HR.out, HPK'.out]; rfl) X3.out
        · obtain ⟨r, hr⟩ : ∃ r, allT K (cs.drop k) = r := ⟨_, rfl⟩
          have HRR2 := hd hr
          have HPK' : Hid (P K = r) := hd (by rw [HPK.out]; exact hr)
          clear hr HPK
          cases r
          · go_wp2_with fail
            refine wp_region_quiet_ext (by kernel_rfl) (by kernel_rfl) ?_
            repeat (go_big_quiet_step ((go_at_call 123; exact ext_call (rtx (HLD.out K _ _ (by omega) (HRR.out.ext (HX2.out.trans (ExtOf.h _)))) HRR2))))
            refine wpQuiet_nil ?_
            rintro _ ⟨⟨w3, hx3⟩, rfl⟩
            have X3 := hd (HX2.out.trans hx3)
            have B3 := hd (hx3.heap HB2.out)
            clear c0 c1 p0 p1 hx3
            go_wp2
            go_roundw
            case rel => exact ⟨K + 1, by omega, by go_num, hd (by rw [HR.out, HPK'.out]; rfl), B3.out, X3.out⟩
            case measure => simp [intOf]; omega
          · go_wp2_with fail
            refine wp_region_quiet_ext (by kernel_rfl) (by kernel_rfl) ?_
            repeat (go_big_quiet_step ((go_at_call 123; exact ext_call (rtx (HLD.out K _ _ (by omega) (HRR.out.ext (HX2.out.trans (ExtOf.h _)))) HRR2))))
            refine wpQuiet_nil ?_
            rintro _ ⟨⟨w3, hx3⟩, rfl⟩
            have X3 := hd (HX2.out.trans hx3)
            have B3 := hd (hx3.heap HB2.out)
            clear c0 c1 p0 p1 hx3
            go_wp2
            go_ret
            exact RetX.mk (by rw [HR.out, HPK'.out]; rfl) X3.out
      · obtain rfl : K = M := by omega
        go_wp2
        go_ret
        exact RetX.mk (by rw [HR.out, Nat.sub_self]; rfl) HX.out
end Go.Proofs.Ytjeeffmpfdhppaa
