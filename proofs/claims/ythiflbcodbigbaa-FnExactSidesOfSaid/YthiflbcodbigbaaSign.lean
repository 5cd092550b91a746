/-
  IsLeftPositive and IsRightNegative of both sides. Conditions: sizes up to 2^20.
-/
import Derived.Test.YthiflbcodbigbaaSplit
namespace Go.Proofs.Ythiflbcodbigbaa
open Go.RowKit
def sgP (both : List Int) (pos : Bool) (l : Int) : Bool := if decide (0 < l) == pos then hasI both (absI l) else false
def signB (cs : List (List Int)) (both : List Int) (pos : Bool) : Bool := anyL (fun c => anyI (sgP both pos) c) cs
set_option maxHeartbeats 1600000 in
theorem s_l30Sign (cs : List (List Int)) (both : List Int) (pos : Bool) (v bv : Value) (w : World) (h : RdSS w v cs) (hb : RdI w bv both) (hl : cs.length ≤ 1048576) (hle : Hid (∀ c ∈ cs, c.length ≤ 1073741824)) (hlit : Hid (∀ c ∈ cs, ∀ l ∈ c, -12 ≤ l ∧ l ≤ 12)) (hbl : both.length ≤ 1073741824) :
    Calls Try.prog 115 #[v, bv, .bool pos] w (Ret w (.bool (signB cs both pos))) := by
  obtain ⟨A, c, rfl, h1, h2, ha⟩ := h.form
  have HB := hd hb
  clear h hb
  go_enter Try.func115, Try.ntmps115
  go_wp2
  go_loop [7] (fun i => ∃ k : Nat, k ≤ cs.length ∧ i = .int .i64 k ∧ Hid (signB cs both pos = signB (cs.drop k) both pos)) (fun i => cs.length - (intOf i).toNat)
  case atStart => exact ⟨0, by omega, rfl, hd rfl⟩
  case round =>
    obtain ⟨k, hk, rfl, HR⟩ := hrel
    by_cases hlt : k < cs.length
    · obtain ⟨a, u, rfl, hc, hr⟩ := RdSS.at_ ha hlt
      have hdc : cs.drop k = cs[k] :: cs.drop (k + 1) := List.drop_eq_getElem_cons hlt
      rw [hdc] at HR
      have hxl := hd (hle.out _ (List.getElem_mem hlt))
      have hli := hd (hlit.out _ (List.getElem_mem hlt))
      clear hdc
      generalize cs[k] = y at *
      obtain ⟨B, d, rfl, h3, h4, hy⟩ := hr.form
      clear hr
      have hyl := hxl.out
      go_wp2
      go_loop [8] (fun i => ∃ m : Nat, m ≤ y.length ∧ i = .int .i64 m ∧ Hid (signB cs both pos = if anyI (sgP both pos) (y.drop m) then true else signB (cs.drop (k + 1)) both pos)) (fun i => y.length - (intOf i).toNat)
      case atStart => exact ⟨0, by omega, rfl, hd (by rw [HR.out]; rfl)⟩
      case round =>
        obtain ⟨m, hm, rfl, HS⟩ := hrel
        by_cases hlt2 : m < y.length
        · obtain ⟨e1, rfl, hc3⟩ := RdI.at_ hy hlt2
          rw [drop_cons hlt2] at HS
          have hlm := hli.out _ (List.getElem_mem hlt2)
          generalize y[m] = l at *
          obtain ⟨l1, l2⟩ := hlm
          obtain ⟨q, hq⟩ : ∃ q, (decide (0 < l) == pos) = q := ⟨_, rfl⟩
          have HQ := hd hq
          cases q
          · have HP : Hid (sgP both pos l = false) := hd (by unfold sgP; rw [hq]; rfl)
            go_wp2
            go_round
            case rel => exact ⟨m + 1, by omega, by go_num, hd (by rw [HS.out, anyI, HP.out]; rfl)⟩
            case measure => simp [intOf]; omega
          · obtain ⟨p, hp⟩ : ∃ p, hasI both (absI l) = p := ⟨_, rfl⟩
            have HP : Hid (sgP both pos l = p) := hd (by unfold sgP; rw [hq, if_pos rfl]; exact hp)
            have HPP := hd hp
            clear hp
            cases p
            · go_wp2_with (first | (go_at_call 150; refine (s_l2Var l _ (by omega)).mono ?_; rintro e w1 ⟨rfl, rfl⟩) | (go_at_call 141; refine (rt (s_l1Has both bv _ _ HB.out hbl) HPP).mono ?_; rintro e w1 ⟨rfl, rfl⟩))
              go_round
              case rel => exact ⟨m + 1, by omega, by go_num, hd (by rw [HS.out, anyI, HP.out]; rfl)⟩
              case measure => simp [intOf]; omega
            · go_wp2_with (first | (go_at_call 150; refine (s_l2Var l _ (by omega)).mono ?_; rintro e w1 ⟨rfl, rfl⟩) | (go_at_call 141; refine (rt (s_l1Has both bv _ _ HB.out hbl) HPP).mono ?_; rintro e w1 ⟨rfl, rfl⟩))
              go_ret
              exact Ret.mk (by rw [HS.out, anyI, HP.out]; rfl)
        · go_wp2
          go_round
          case rel => exact ⟨k + 1, by omega, by go_num, hd (by rw [HS.out, List.drop_eq_nil_of_le (by omega)]; rfl)⟩
          case measure => simp [intOf]; omega
    · go_wp2
      go_ret
      exact Ret.mk (by rw [HR.out, List.drop_eq_nil_of_le (by omega)]; rfl)
theorem good_lit {f : Cnf} (h : goodB f = true) : ∀ c ∈ f.cs, ∀ l ∈ c, -12 ≤ l ∧ l ≤ 12 := fun c hc l hl => by
  obtain ⟨a, b, d, _⟩ := clause_inv ((good_inv h).2.2.2 c hc)
  have := d l hl; omega
set_option maxHeartbeats 1600000 in
theorem s_l30Left (f : Cnf) (v : Value) (k : Nat) (w : World) (h : Rd_Cnf w v f) (b : Bd_Cnf f) (hg : goodB f = true) (hk : k ≤ f.cs.length) :
    Calls Try.prog 67 #[v, .int .i64 k] w (RetX w (.bool (!signB (f.cs.take k) (bothV f k f.n.toNat) false))) := by
  obtain ⟨vc, rfl, hC⟩ := h
  obtain ⟨A, c, rfl, h1, h2, ha⟩ := hC.form
  have HB := hd b
  have HK := hd hk
  have HG := hd hg
  have hl := b.1
  have HLT : Hid (∀ y ∈ f.cs.take k, y.length ≤ 1073741824) := hd fun y hy => b.cl.out y (List.mem_of_mem_take hy)
  have HTL : (f.cs.take k).length ≤ 1048576 := by simp; omega
  have HLI : Hid (∀ c ∈ f.cs.take k, ∀ l ∈ c, -12 ≤ l ∧ l ≤ 12) := hd fun c hc => good_lit hg c (List.mem_of_mem_take hc)
  have hbl : (bothV f k f.n.toNat).length ≤ 1073741824 := by have := filt12 hg (fun v => inS (f.cs.take k) v && inS (f.cs.drop k) v); unfold bothV; omega
  have hsides := fun (w' : World) (hx : Rd_Cnf w' (.agg #[.int .i64 f.n, .slice A f.cs.length c]) f) => s_l29Sides f _ k w' hx b hg hk
  have HSI := hd hsides
  generalize bothV f k f.n.toNat = both at *
  generalize leftV f k f.n.toNat = lefts at *
  generalize rightV f k f.n.toNat = rights at *
  have HRD : Hid (∀ w' vc, RdSS w' vc f.cs → Rd_Cnf w' (.agg #[.int .i64 f.n, vc]) f) := hd fun w' vc hx => ⟨vc, rfl, hx⟩
  obtain ⟨n, cs⟩ := f
  simp only at *
  clear hC b hg hsides
  have e1 : (0 : Int) ≤ (k : Int) := by omega
  have e2 : (k : Int) ≤ (cs.length : Int) := by omega
  rcases rdSS_cut ha.out hk with ⟨rfl, h0, rfl⟩ | ⟨a, rfl, rfl, hck⟩ | ⟨a, rfl, hck⟩
  · subst h0
    have HL : Hid (RdSS w (.slice none 0 c) (([] : List (List Int)).take 0)) := hd (rdSS_takeZ h2)
    have HRR : Hid (RdSS w (.slice none 0 c) (([] : List (List Int)).drop 0)) := hd (rdSS_dropZ (by simp) h2)
    have HN : Hid (([] : List (List Int)).length = 0) := hd rfl
    have hc2 := RdSS.ext ha.out (Ext.new w (.cells #[.int .i64 n, .slice none 0 c] 28))
    have HC2 := hd hc2
    have HB0 := hd (blk_new (w := w) (.cells #[.int .i64 n, .slice none 0 c] 28) rfl)
    clear hc2
    go_enter Try.func67, Try.ntmps67
    go_wp2_with fail
    refine (HSI.out _ (HRD.out _ _ HC2.out)).mono ?_
    rintro e w1 ⟨u0, u1, u2, rfl, -, -, hu2, hx⟩
    have X1 := hd ((Ext.new w _).trans hx)
    obtain ⟨c0, c1⟩ := blk2 (hx.heap HB0.out)
    have HU2 := hd hu2.rd
    clear hu2 hx
    go_wp2_with fail
    refine (s_l30Sign _ both false _ u2 _ (HL.out.ext X1.out) HU2.out HTL HLT HLI hbl).mono ?_
    rintro e w2 ⟨rfl, rfl⟩
    go_wp2
    go_ret
    exact RetX.mk rfl X1.out
  · generalize hN : cs.length = N at *
    obtain rfl : N = c := by omega
    have HN := hd hN
    clear hN hck
    have HL := hd (rdSS_take (n := N) ha.out (by rw [HN.out]; exact Nat.le_refl N) : RdSS w (.slice (some a) N N) (cs.take N))
    have HRR := hd (rdSS_dropZ (A := some a) (k := N) (c := 0) (xss := cs) (w := w) (by rw [HN.out]; exact Nat.le_refl _) (Nat.zero_le _))
    have hc2 := RdSS.ext ha.out (Ext.new w (.cells #[.int .i64 n, .slice (some a) N N] 28))
    have HC2 := hd hc2
    have HB0 := hd (blk_new (w := w) (.cells #[.int .i64 n, .slice (some a) N N] 28) rfl)
    clear hc2
    go_enter Try.func67, Try.ntmps67
    go_wp2_with fail
    refine (HSI.out _ (HRD.out _ _ HC2.out)).mono ?_
    rintro e w1 ⟨u0, u1, u2, rfl, -, -, hu2, hx⟩
    have X1 := hd ((Ext.new w _).trans hx)
    obtain ⟨c0, c1⟩ := blk2 (hx.heap HB0.out)
    have HU2 := hd hu2.rd
    clear hu2 hx
    go_wp2_with fail
    refine (s_l30Sign _ both false _ u2 _ (HL.out.ext X1.out) HU2.out HTL HLT HLI hbl).mono ?_
    rintro e w2 ⟨rfl, rfl⟩
    go_wp2
    go_ret
    exact RetX.mk rfl X1.out
  · have HN : Hid (cs.length = cs.length) := hd rfl
    have HL := hd (rdSS_take ha.out hk)
    have HRR := hd (rdSS_drop ha.out hk)
    have hkc : k ≤ c := by omega
    have hkn : ¬ c = k := by omega
    have hc2 := RdSS.ext ha.out (Ext.new w (.cells #[.int .i64 n, .slice (some a) cs.length c] 28))
    have HC2 := hd hc2
    have HB0 := hd (blk_new (w := w) (.cells #[.int .i64 n, .slice (some a) cs.length c] 28) rfl)
    clear hc2
    go_enter Try.func67, Try.ntmps67
    go_wp2_with fail
    refine (HSI.out _ (HRD.out _ _ HC2.out)).mono ?_
    rintro e w1 ⟨u0, u1, u2, rfl, -, -, hu2, hx⟩
    have X1 := hd ((Ext.new w _).trans hx)
    obtain ⟨c0, c1⟩ := blk2 (hx.heap HB0.out)
    have HU2 := hd hu2.rd
    clear hu2 hx
    go_wp2_with fail
    refine (s_l30Sign _ both false _ u2 _ (HL.out.ext X1.out) HU2.out HTL HLT HLI hbl).mono ?_
    rintro e w2 ⟨rfl, rfl⟩
    go_wp2
    go_ret
    exact RetX.mk rfl X1.out
set_option maxHeartbeats 1600000 in
theorem s_l30Right (f : Cnf) (v : Value) (k : Nat) (w : World) (h : Rd_Cnf w v f) (b : Bd_Cnf f) (hg : goodB f = true) (hk : k ≤ f.cs.length) :
    Calls Try.prog 73 #[v, .int .i64 k] w (RetX w (.bool (!signB (f.cs.drop k) (bothV f k f.n.toNat) true))) := by
  obtain ⟨vc, rfl, hC⟩ := h
  obtain ⟨A, c, rfl, h1, h2, ha⟩ := hC.form
  have HB := hd b
  have HK := hd hk
  have HG := hd hg
  have hl := b.1
  have HLT : Hid (∀ y ∈ f.cs.drop k, y.length ≤ 1073741824) := hd fun y hy => b.cl.out y (List.mem_of_mem_drop hy)
  have HTL : (f.cs.drop k).length ≤ 1048576 := by simp; omega
  have HLI : Hid (∀ c ∈ f.cs.drop k, ∀ l ∈ c, -12 ≤ l ∧ l ≤ 12) := hd fun c hc => good_lit hg c (List.mem_of_mem_drop hc)
  have hbl : (bothV f k f.n.toNat).length ≤ 1073741824 := by have := filt12 hg (fun v => inS (f.cs.take k) v && inS (f.cs.drop k) v); unfold bothV; omega
  have hsides := fun (w' : World) (hx : Rd_Cnf w' (.agg #[.int .i64 f.n, .slice A f.cs.length c]) f) => s_l29Sides f _ k w' hx b hg hk
  have HSI := hd hsides
  generalize bothV f k f.n.toNat = both at *
  generalize leftV f k f.n.toNat = lefts at *
  generalize rightV f k f.n.toNat = rights at *
  have HRD : Hid (∀ w' vc, RdSS w' vc f.cs → Rd_Cnf w' (.agg #[.int .i64 f.n, vc]) f) := hd fun w' vc hx => ⟨vc, rfl, hx⟩
  obtain ⟨n, cs⟩ := f
  simp only at *
  clear hC b hg hsides
  have e1 : (0 : Int) ≤ (k : Int) := by omega
  have e2 : (k : Int) ≤ (cs.length : Int) := by omega
  rcases rdSS_cut ha.out hk with ⟨rfl, h0, rfl⟩ | ⟨a, rfl, rfl, hck⟩ | ⟨a, rfl, hck⟩
  · subst h0
    have HL : Hid (RdSS w (.slice none 0 c) (([] : List (List Int)).take 0)) := hd (rdSS_takeZ h2)
    have HRR : Hid (RdSS w (.slice none 0 c) (([] : List (List Int)).drop 0)) := hd (rdSS_dropZ (by simp) h2)
    have HN : Hid (([] : List (List Int)).length = 0) := hd rfl
    have hc2 := RdSS.ext ha.out (Ext.new w (.cells #[.int .i64 n, .slice none 0 c] 28))
    have HC2 := hd hc2
    have HB0 := hd (blk_new (w := w) (.cells #[.int .i64 n, .slice none 0 c] 28) rfl)
    clear hc2
    go_enter Try.func73, Try.ntmps73
    go_wp2_with fail
    refine (HSI.out _ (HRD.out _ _ HC2.out)).mono ?_
    rintro e w1 ⟨u0, u1, u2, rfl, -, -, hu2, hx⟩
    have X1 := hd ((Ext.new w _).trans hx)
    obtain ⟨c0, c1⟩ := blk2 (hx.heap HB0.out)
    have HU2 := hd hu2.rd
    clear hu2 hx
    go_wp2_with fail
    refine (s_l30Sign _ both true _ u2 _ (HRR.out.ext X1.out) HU2.out HTL HLT HLI hbl).mono ?_
    rintro e w2 ⟨rfl, rfl⟩
    go_wp2
    go_ret
    exact RetX.mk rfl X1.out
  · generalize hN : cs.length = N at *
    obtain rfl : N = c := by omega
    have HN := hd hN
    clear hN hck
    have HL := hd (rdSS_take (n := N) ha.out (by rw [HN.out]; exact Nat.le_refl N) : RdSS w (.slice (some a) N N) (cs.take N))
    have HRR := hd (rdSS_dropZ (A := some a) (k := N) (c := 0) (xss := cs) (w := w) (by rw [HN.out]; exact Nat.le_refl _) (Nat.zero_le _))
    have hc2 := RdSS.ext ha.out (Ext.new w (.cells #[.int .i64 n, .slice (some a) N N] 28))
    have HC2 := hd hc2
    have HB0 := hd (blk_new (w := w) (.cells #[.int .i64 n, .slice (some a) N N] 28) rfl)
    clear hc2
    go_enter Try.func73, Try.ntmps73
    go_wp2_with fail
    refine (HSI.out _ (HRD.out _ _ HC2.out)).mono ?_
    rintro e w1 ⟨u0, u1, u2, rfl, -, -, hu2, hx⟩
    have X1 := hd ((Ext.new w _).trans hx)
    obtain ⟨c0, c1⟩ := blk2 (hx.heap HB0.out)
    have HU2 := hd hu2.rd
    clear hu2 hx
    go_wp2_with fail
    refine (s_l30Sign _ both true _ u2 _ (HRR.out.ext X1.out) HU2.out HTL HLT HLI hbl).mono ?_
    rintro e w2 ⟨rfl, rfl⟩
    go_wp2
    go_ret
    exact RetX.mk rfl X1.out
  · have HN : Hid (cs.length = cs.length) := hd rfl
    have HL := hd (rdSS_take ha.out hk)
    have HRR := hd (rdSS_drop ha.out hk)
    have hkc : k ≤ c := by omega
    have hkn : ¬ c = k := by omega
    have hc2 := RdSS.ext ha.out (Ext.new w (.cells #[.int .i64 n, .slice (some a) cs.length c] 28))
    have HC2 := hd hc2
    have HB0 := hd (blk_new (w := w) (.cells #[.int .i64 n, .slice (some a) cs.length c] 28) rfl)
    clear hc2
    go_enter Try.func73, Try.ntmps73
    go_wp2_with fail
    refine (HSI.out _ (HRD.out _ _ HC2.out)).mono ?_
    rintro e w1 ⟨u0, u1, u2, rfl, -, -, hu2, hx⟩
    have X1 := hd ((Ext.new w _).trans hx)
    obtain ⟨c0, c1⟩ := blk2 (hx.heap HB0.out)
    have HU2 := hd hu2.rd
    clear hu2 hx
    go_wp2_with fail
    refine (s_l30Sign _ both true _ u2 _ (HRR.out.ext X1.out) HU2.out HTL HLT HLI hbl).mono ?_
    rintro e w2 ⟨rfl, rfl⟩
    go_wp2
    go_ret
    exact RetX.mk rfl X1.out
def goodSides (f : Cnf) (k : Int) : List Int := bothV f k.toNat f.n.toNat
def leftPosB (f : Cnf) (k : Int) : Bool := if askB f k then !signB (f.cs.take k.toNat) (bothV f k.toNat f.n.toNat) false else false
def rightNegB (f : Cnf) (k : Int) : Bool := if askB f k then !signB (f.cs.drop k.toNat) (bothV f k.toNat f.n.toNat) true else false
set_option maxHeartbeats 800000 in
theorem s_IsLeftPositive (f : Cnf) (v : Value) (k : Int) (w : World) (h : Rd_Cnf w v f) (b : Bd_Cnf f) (_ : I64_Cnf f) (_ : I64 k) :
    Calls Try.prog 19 #[v, .int .i64 k] w (RetX w (.tuple #[.bool (leftPosB f k), .bool (askB f k)])) := by
  obtain ⟨A, c, rfl⟩ := h.form
  have X0 : Hid (Ext w (w.alloc (.cells #[.int .i64 f.n, .slice A f.cs.length c] 28))) := hd (Ext.new _ _)
  have HV := hd (h.ext X0.out)
  have HB := hd b
  have HB0 := hd (blk_new (w := w) (.cells #[.int .i64 f.n, .slice A f.cs.length c] 28) rfl)
  clear h b
  obtain ⟨q, hq⟩ : ∃ q, askB f k = q := ⟨_, rfl⟩
  have HQ := hd hq
  cases q
  · clear hq
    go_enter Try.func19, Try.ntmps19
    go_wp2_with fail
    refine (rtx (s_l29Asked f _ k _ HV.out HB.out) HQ).mono ?_
    rintro e w1 ⟨rfl, hx1⟩
    have X1 := hd (X0.out.trans hx1)
    clear hx1
    go_wp2
    go_ret2
    exact RetX.mk (by unfold leftPosB; rw [HQ.out]; rfl) X1.out
  · obtain ⟨hg, j, rfl, hj⟩ := ask_inv hq
    have HG := hd hg
    have HJ := hd hj
    clear hg hj hq
    go_enter Try.func19, Try.ntmps19
    go_wp2_with fail
    refine (rtx (s_l29Asked f _ _ _ HV.out HB.out) HQ).mono ?_
    rintro e w1 ⟨rfl, hx1⟩
    have X1 := hd (X0.out.trans hx1)
    have HV1 := hd (HV.out.ext hx1)
    obtain ⟨c0, c1⟩ := blk2 (hx1.heap HB0.out)
    clear hx1
    go_wp2_with fail
    refine (s_l30Left f _ j _ HV1.out HB.out HG.out HJ.out).mono ?_
    rintro e w2 ⟨rfl, hx2⟩
    have X2 := hd (X1.out.trans hx2)
    clear hx2
    go_wp2
    go_ret2
    exact RetX.mk (by unfold leftPosB; rw [HQ.out, if_pos rfl, Int.toNat_natCast]; rfl) X2.out
set_option maxHeartbeats 800000 in
theorem s_IsRightNegative (f : Cnf) (v : Value) (k : Int) (w : World) (h : Rd_Cnf w v f) (b : Bd_Cnf f) (_ : I64_Cnf f) (_ : I64 k) :
    Calls Try.prog 23 #[v, .int .i64 k] w (RetX w (.tuple #[.bool (rightNegB f k), .bool (askB f k)])) := by
  obtain ⟨A, c, rfl⟩ := h.form
  have X0 : Hid (Ext w (w.alloc (.cells #[.int .i64 f.n, .slice A f.cs.length c] 28))) := hd (Ext.new _ _)
  have HV := hd (h.ext X0.out)
  have HB := hd b
  have HB0 := hd (blk_new (w := w) (.cells #[.int .i64 f.n, .slice A f.cs.length c] 28) rfl)
  clear h b
  obtain ⟨q, hq⟩ : ∃ q, askB f k = q := ⟨_, rfl⟩
  have HQ := hd hq
  cases q
  · clear hq
    go_enter Try.func23, Try.ntmps23
    go_wp2_with fail
    refine (rtx (s_l29Asked f _ k _ HV.out HB.out) HQ).mono ?_
    rintro e w1 ⟨rfl, hx1⟩
    have X1 := hd (X0.out.trans hx1)
    clear hx1
    go_wp2
    go_ret2
    exact RetX.mk (by unfold rightNegB; rw [HQ.out]; rfl) X1.out
  · obtain ⟨hg, j, rfl, hj⟩ := ask_inv hq
    have HG := hd hg
    have HJ := hd hj
    clear hg hj hq
    go_enter Try.func23, Try.ntmps23
    go_wp2_with fail
    refine (rtx (s_l29Asked f _ _ _ HV.out HB.out) HQ).mono ?_
    rintro e w1 ⟨rfl, hx1⟩
    have X1 := hd (X0.out.trans hx1)
    have HV1 := hd (HV.out.ext hx1)
    obtain ⟨c0, c1⟩ := blk2 (hx1.heap HB0.out)
    clear hx1
    go_wp2_with fail
    refine (s_l30Right f _ j _ HV1.out HB.out HG.out HJ.out).mono ?_
    rintro e w2 ⟨rfl, hx2⟩
    have X2 := hd (X1.out.trans hx2)
    clear hx2
    go_wp2
    go_ret2
    exact RetX.mk (by unfold rightNegB; rw [HQ.out, if_pos rfl, Int.toNat_natCast]; rfl) X2.out
theorem both_pos {f : Cnf} (h : goodB f = true) (k : Nat) : ∀ x ∈ bothV f k f.n.toNat, 1 ≤ x ∧ x ≤ 12 := fun x hx => by
  unfold bothV at hx
  have := mem_seqI.1 (List.mem_filter.1 hx).1
  have := (good_inv h).2.1
  omega
theorem good_nz {f : Cnf} (h : goodB f = true) : ∀ c ∈ f.cs, ∀ l ∈ c, l ≠ 0 := fun c hc l hl => ((clause_inv ((good_inv h).2.2.2 c hc)).2.2.1 l hl).2.2
theorem sgP_iff {both : List Int} {pos : Bool} {l : Int} : sgP both pos l = true ↔ (decide (0 < l) == pos) = true ∧ absI l ∈ both := by
  unfold sgP
  cases h : (decide (0 < l) == pos)
  · simp
  · rw [if_pos rfl, hasI_iff]; simp
theorem signB_iff {cs : List (List Int)} {both : List Int} {pos : Bool} : signB cs both pos = true ↔ ∃ c ∈ cs, ∃ l ∈ c, (decide (0 < l) == pos) = true ∧ absI l ∈ both := by
  unfold signB
  rw [anyL_eq, List.any_eq_true]
  constructor
  · rintro ⟨c, h1, h2⟩
    rw [anyI_eq, List.any_eq_true] at h2
    obtain ⟨l, h3, h4⟩ := h2
    exact ⟨c, h1, l, h3, sgP_iff.1 h4⟩
  · rintro ⟨c, h1, l, h3, h4⟩
    exact ⟨c, h1, by rw [anyI_eq, List.any_eq_true]; exact ⟨l, h3, sgP_iff.2 h4⟩⟩
theorem sign_neg {f : Cnf} (h : goodB f = true) (k : Nat) : anyI (fun v => occB (f.cs.take k) (-v)) (bothV f k f.n.toNat) = signB (f.cs.take k) (bothV f k f.n.toNat) false := by
  rw [Bool.eq_iff_iff, signB_iff, anyI_eq, List.any_eq_true]
  constructor
  · rintro ⟨v, hv, ho⟩
    obtain ⟨c, hc, hl⟩ := (occB_iff _ _).1 ho
    have := both_pos h k v hv
    refine ⟨c, hc, -v, hl, by simp; omega, ?_⟩
    unfold absI; rw [if_pos (by omega), Int.neg_neg]; exact hv
  · rintro ⟨c, hc, l, hl, hs, hb⟩
    have hnz := good_nz h c (mem_t c hc) l hl
    have hneg : l < 0 := by simp at hs; omega
    unfold absI at hb; rw [if_pos hneg] at hb
    exact ⟨-l, hb, (occB_iff _ _).2 ⟨c, hc, by rw [Int.neg_neg]; exact hl⟩⟩
theorem sign_pos {f : Cnf} (h : goodB f = true) (k : Nat) : anyI (fun v => occB (f.cs.drop k) v) (bothV f k f.n.toNat) = signB (f.cs.drop k) (bothV f k f.n.toNat) true := by
  rw [Bool.eq_iff_iff, signB_iff, anyI_eq, List.any_eq_true]
  constructor
  · rintro ⟨v, hv, ho⟩
    obtain ⟨c, hc, hl⟩ := (occB_iff _ _).1 ho
    have := both_pos h k v hv
    refine ⟨c, hc, v, hl, by simp; omega, ?_⟩
    unfold absI; rw [if_neg (by omega)]; exact hv
  · rintro ⟨c, hc, l, hl, hs, hb⟩
    have hp : 0 < l := by simpa using hs
    unfold absI at hb; rw [if_neg (by omega)] at hb
    exact ⟨l, hb, (occB_iff _ _).2 ⟨c, hc, hl⟩⟩
theorem enters_occurs1 : Enters 153 := fun args w => by kernel_rfl
theorem i_occurs1 (c : List Int) (l : Int) (u : Value) (a : Addr) (w : World) (h : w.cell? a = some (.int .i64 l)) (hr : RdI w u c) (hl : c.length ≤ 1073741824) :
    Calls Try.prog 153 #[u, .pointer (some a)] w (Ret w (.bool (hasI c l))) := by
  have HR := hd hr
  clear hr
  go_enter Try.func153, Try.ntmps153
  go_wp2_with fail
  refine (slices_Contains c u l _ HR.out hl).mono ?_
  rintro e w1 ⟨rfl, rfl⟩
  go_wp2
  go_ret
  exact Ret.mk rfl
set_option maxHeartbeats 800000 in
theorem i_occurs (cs : List (List Int)) (v : Value) (l : Int) (w : World) (h : RdSS w v cs) (hl : cs.length ≤ 1073741824) (hle : Hid (∀ c ∈ cs, c.length ≤ 1073741824)) :
    Calls Try.prog 120 #[v, .int .i64 l] w (RetX w (.bool (occB cs l))) := by
  have HR := hd (h.ext (Ext.new w (.cells #[.int .i64 l] 3)))
  have HA : Hid (AnsS 153 #[.pointer (some ⟨w.heap.size, 0, none⟩)] (fun c => hasI c l) cs (w.alloc (.cells #[.int .i64 l] 3))) := hd fun c hc u w' hx hr =>
    (i_occurs1 c l u _ w' (hx.cell (blk1 (blk_new _ rfl))) hr (hle.out c hc)).mono fun _ _ h => rx_r h
  clear h
  go_enter Try.func120, Try.ntmps120
  go_wp2_with fail
  refine (slices_ContainsFuncS cs v _ _ _ _ HR.out hl enters_occurs1 HA).mono ?_
  rintro e w1 ⟨rfl, hx⟩
  have X := hd ((Ext.new w _).trans hx)
  clear hx
  go_wp2
  go_ret
  exact RetX.mk rfl X.out
set_option maxRecDepth 100000 in
set_option maxHeartbeats 1600000 in
theorem i_signFreeN (f : Cnf) (k : Nat) (sh : List Int) (cs : List (List Int)) (v cv : Value) (w : World) (h : RdSp w v f k sh) (hC : RdSS w cv cs) (hl : cs.length ≤ 1073741824) (hle : Hid (∀ c ∈ cs, c.length ≤ 1073741824)) (hpos : Hid (∀ x ∈ sh, 1 ≤ x ∧ x ≤ 12)) :
    Calls Try.prog 70 #[v, cv, .int .i64 (-1)] w (RetX w (.bool (!anyI (fun x => occB cs (-x)) sh))) := by
  obtain ⟨b, vc, vs, rfl, hb, -, hS⟩ := h
  obtain ⟨c0, c1, c2, c3⟩ := blk4' hb
  obtain ⟨A, c, rfl, h1, h2, ha⟩ := hS.form
  unfold maxLen at h2
  have HC := hd hC
  clear hb hC hS
  go_enter Try.func70, Try.ntmps70
  go_wp2
  go_loopw [14, 8] (fun i _ wr => ∃ j : Nat, j ≤ sh.length ∧ i = .int .i64 j ∧ Hid (anyI (fun x => occB cs (-x)) sh = anyI (fun x => occB cs (-x)) (sh.drop j)) ∧ Ext w wr) (fun i _ _ => sh.length - (intOf i).toNat)
  case atStart => exact ⟨0, by omega, rfl, hd rfl, Ext.refl _⟩
  case round =>
    clear c0 c1 c2 c3
    obtain ⟨j, hj, rfl, HR, hx⟩ := hrel
    have HX := hd hx
    clear hx
    by_cases hlt : j < sh.length
    · obtain ⟨a, rfl, hc0⟩ := RdI.at_ ha hlt
      have hc := HX.out.cell hc0
      have hp := hpos.out _ (List.getElem_mem hlt)
      have hdc : sh.drop j = sh[j] :: sh.drop (j + 1) := List.drop_eq_getElem_cons hlt
      rw [hdc] at HR
      clear hc0 hdc
      generalize sh[j] = y at *
      obtain ⟨hp1, hp2⟩ := hp
      obtain ⟨q, hq⟩ : ∃ q, occB cs (-y) = q := ⟨_, rfl⟩
      have HQ := hd hq
      clear hq
      cases q
      · go_wp2_with fail
        refine (rtx (i_occurs cs cv (-y) _ (HC.out.ext HX.out) hl hle) HQ).mono ?_
        rintro e w1 ⟨rfl, hx1⟩
        have HX1 := hd (HX.out.trans hx1)
        clear hx1
        go_wp2
        go_roundw
        case rel => exact ⟨j + 1, by omega, by go_num, hd (by rw [HR.out, anyI, HQ.out]; rfl), HX1.out⟩
        case measure => simp [intOf]; omega
      · go_wp2_with fail
        refine (rtx (i_occurs cs cv (-y) _ (HC.out.ext HX.out) hl hle) HQ).mono ?_
        rintro e w1 ⟨rfl, hx1⟩
        have HX1 := hd (HX.out.trans hx1)
        clear hx1
        go_wp2
        go_ret
        exact RetX.mk (by rw [HR.out, anyI, HQ.out]; rfl) HX1.out
    · go_wp2
      go_ret
      exact RetX.mk (by rw [HR.out, List.drop_eq_nil_of_le (by omega)]; rfl) HX.out
set_option maxRecDepth 100000 in
set_option maxHeartbeats 1600000 in
theorem i_signFreeP (f : Cnf) (k : Nat) (sh : List Int) (cs : List (List Int)) (v cv : Value) (w : World) (h : RdSp w v f k sh) (hC : RdSS w cv cs) (hl : cs.length ≤ 1073741824) (hle : Hid (∀ c ∈ cs, c.length ≤ 1073741824)) (hpos : Hid (∀ x ∈ sh, 1 ≤ x ∧ x ≤ 12)) :
    Calls Try.prog 70 #[v, cv, .int .i64 (1)] w (RetX w (.bool (!anyI (fun x => occB cs (x)) sh))) := by
  obtain ⟨b, vc, vs, rfl, hb, -, hS⟩ := h
  obtain ⟨c0, c1, c2, c3⟩ := blk4' hb
  obtain ⟨A, c, rfl, h1, h2, ha⟩ := hS.form
  unfold maxLen at h2
  have HC := hd hC
  clear hb hC hS
  go_enter Try.func70, Try.ntmps70
  go_wp2
  go_loopw [14, 8] (fun i _ wr => ∃ j : Nat, j ≤ sh.length ∧ i = .int .i64 j ∧ Hid (anyI (fun x => occB cs (x)) sh = anyI (fun x => occB cs (x)) (sh.drop j)) ∧ Ext w wr) (fun i _ _ => sh.length - (intOf i).toNat)
  case atStart => exact ⟨0, by omega, rfl, hd rfl, Ext.refl _⟩
  case round =>
    clear c0 c1 c2 c3
    obtain ⟨j, hj, rfl, HR, hx⟩ := hrel
    have HX := hd hx
    clear hx
    by_cases hlt : j < sh.length
    · obtain ⟨a, rfl, hc0⟩ := RdI.at_ ha hlt
      have hc := HX.out.cell hc0
      have hp := hpos.out _ (List.getElem_mem hlt)
      have hdc : sh.drop j = sh[j] :: sh.drop (j + 1) := List.drop_eq_getElem_cons hlt
      rw [hdc] at HR
      clear hc0 hdc
      generalize sh[j] = y at *
      obtain ⟨hp1, hp2⟩ := hp
      obtain ⟨q, hq⟩ : ∃ q, occB cs (y) = q := ⟨_, rfl⟩
      have HQ := hd hq
      clear hq
      cases q
      · go_wp2_with fail
        refine (rtx (i_occurs cs cv (y) _ (HC.out.ext HX.out) hl hle) HQ).mono ?_
        rintro e w1 ⟨rfl, hx1⟩
        have HX1 := hd (HX.out.trans hx1)
        clear hx1
        go_wp2
        go_roundw
        case rel => exact ⟨j + 1, by omega, by go_num, hd (by rw [HR.out, anyI, HQ.out]; rfl), HX1.out⟩
        case measure => simp [intOf]; omega
      · go_wp2_with fail
        refine (rtx (i_occurs cs cv (y) _ (HC.out.ext HX.out) hl hle) HQ).mono ?_
        rintro e w1 ⟨rfl, hx1⟩
        have HX1 := hd (HX.out.trans hx1)
        clear hx1
        go_wp2
        go_ret
        exact RetX.mk (by rw [HR.out, anyI, HQ.out]; rfl) HX1.out
    · go_wp2
      go_ret
      exact RetX.mk (by rw [HR.out, List.drop_eq_nil_of_le (by omega)]; rfl) HX.out
set_option maxRecDepth 100000 in
set_option maxHeartbeats 1600000 in
theorem i_IsLeftPositive (f : Cnf) (v : Value) (k : Int) (w : World) (h : Rd_Cnf w v f) (b : Bd_Cnf f) (_ : I64_Cnf f) (_ : I64 k) :
    Calls Try.prog 21 #[v, .int .i64 k] w (RetX w (.tuple #[.bool (leftPosB f k), .bool (askB f k)])) := by
  obtain ⟨A, c, rfl⟩ := h.form
  have X0 : Hid (Ext w (w.alloc (.cells #[.int .i64 f.n, .slice A f.cs.length c] 28))) := hd (Ext.new _ _)
  have HV := hd (h.ext X0.out)
  have HB := hd b
  clear h b
  obtain ⟨q, hq⟩ : ∃ q, askB f k = q := ⟨_, rfl⟩
  have HQ := hd hq
  cases q
  · go_enter Try.func21, Try.ntmps21
    go_wp2_with fail
    refine (i_splitOf_no f _ k _ HV.out HB.out HQ.out).mono ?_
    rintro e w1 ⟨rfl, hx1⟩
    have X1 := hd (X0.out.trans hx1)
    clear hx1 hq
    go_wp2
    go_ret2
    exact RetX.mk (by unfold leftPosB; rw [HQ.out]; rfl) X1.out
  · obtain ⟨hg, j, rfl, hj⟩ := ask_inv hq
    have HG := hd hg
    have HJ := hd hj
    have HE := hd (sign_neg hg j)
    have hl60 := (good_inv hg).2.2.1
    have HBL : Hid ((bothV f j f.n.toNat).length ≤ 1073741824) := hd (by have := filt12 hg (fun v => inS (f.cs.take j) v && inS (f.cs.drop j) v); unfold bothV; omega)
    have HPO : Hid (∀ x ∈ bothV f j f.n.toNat, 1 ≤ x ∧ x ≤ 12) := hd (both_pos hg j)
    have HLE : Hid (∀ y ∈ f.cs.take j, y.length ≤ 1073741824) := hd fun y hy => by have := good_len hg y (mem_t _ hy); omega
    have HLL : Hid ((f.cs.take j).length ≤ 1048576) := hd (by simp; omega)
    clear hg hj hq
    obtain ⟨both, hbo⟩ : ∃ both, bothV f j f.n.toNat = both := ⟨_, rfl⟩
    rw [hbo] at HE HBL HPO
    have HBB := hd hbo
    clear hbo
    go_enter Try.func21, Try.ntmps21
    go_wp2_with fail
    refine (i_splitOf_yes f _ j _ HV.out HB.out HG.out HJ.out).mono ?_
    rw [HBB.out]
    rintro e w1 ⟨p, rfl, hs, hx1⟩
    have S1 := hd hs.rd
    have X1 := hd (X0.out.trans hx1)
    clear hs hx1
    go_wp2_with fail
    refine (i_left f j both _ _ S1.out HJ.out (by omega)).mono ?_
    rintro e w2 ⟨u, rfl, hu, n, rfl⟩
    have HU := hd (hu.ext (ext_drewN _ n))
    have S2 := hd (S1.out.ext (ext_drewN _ n))
    have X2 := hd (X1.out.drewN n)
    clear hu S1 X1
    go_wp2_with fail
    refine (i_signFreeN f j both (f.cs.take j) _ u _ S2.out HU.out (by have := HLL.out; omega) HLE HPO).mono ?_
    rintro e w3 ⟨rfl, hx3⟩
    have X3 := hd (X2.out.trans hx3)
    clear hx3
    go_wp2
    go_ret2
    exact RetX.mk (by unfold leftPosB; rw [HQ.out, if_pos rfl, Int.toNat_natCast, HBB.out, ← HE.out]; rfl) X3.out
set_option maxRecDepth 100000 in
set_option maxHeartbeats 1600000 in
theorem i_IsRightNegative (f : Cnf) (v : Value) (k : Int) (w : World) (h : Rd_Cnf w v f) (b : Bd_Cnf f) (_ : I64_Cnf f) (_ : I64 k) :
    Calls Try.prog 24 #[v, .int .i64 k] w (RetX w (.tuple #[.bool (rightNegB f k), .bool (askB f k)])) := by
  obtain ⟨A, c, rfl⟩ := h.form
  have X0 : Hid (Ext w (w.alloc (.cells #[.int .i64 f.n, .slice A f.cs.length c] 28))) := hd (Ext.new _ _)
  have HV := hd (h.ext X0.out)
  have HB := hd b
  clear h b
  obtain ⟨q, hq⟩ : ∃ q, askB f k = q := ⟨_, rfl⟩
  have HQ := hd hq
  cases q
  · go_enter Try.func24, Try.ntmps24
    go_wp2_with fail
    refine (i_splitOf_no f _ k _ HV.out HB.out HQ.out).mono ?_
    rintro e w1 ⟨rfl, hx1⟩
    have X1 := hd (X0.out.trans hx1)
    clear hx1 hq
    go_wp2
    go_ret2
    exact RetX.mk (by unfold rightNegB; rw [HQ.out]; rfl) X1.out
  · obtain ⟨hg, j, rfl, hj⟩ := ask_inv hq
    have HG := hd hg
    have HJ := hd hj
    have HE := hd (sign_pos hg j)
    have hl60 := (good_inv hg).2.2.1
    have HBL : Hid ((bothV f j f.n.toNat).length ≤ 1073741824) := hd (by have := filt12 hg (fun v => inS (f.cs.take j) v && inS (f.cs.drop j) v); unfold bothV; omega)
    have HPO : Hid (∀ x ∈ bothV f j f.n.toNat, 1 ≤ x ∧ x ≤ 12) := hd (both_pos hg j)
    have HLE : Hid (∀ y ∈ f.cs.drop j, y.length ≤ 1073741824) := hd fun y hy => by have := good_len hg y (mem_d _ hy); omega
    have HLL : Hid ((f.cs.drop j).length ≤ 1048576) := hd (by simp; omega)
    clear hg hj hq
    obtain ⟨both, hbo⟩ : ∃ both, bothV f j f.n.toNat = both := ⟨_, rfl⟩
    rw [hbo] at HE HBL HPO
    have HBB := hd hbo
    clear hbo
    go_enter Try.func24, Try.ntmps24
    go_wp2_with fail
    refine (i_splitOf_yes f _ j _ HV.out HB.out HG.out HJ.out).mono ?_
    rw [HBB.out]
    rintro e w1 ⟨p, rfl, hs, hx1⟩
    have S1 := hd hs.rd
    have X1 := hd (X0.out.trans hx1)
    clear hs hx1
    go_wp2_with fail
    refine (i_right f j both _ _ S1.out HJ.out (by omega)).mono ?_
    rintro e w2 ⟨u, rfl, hu, n, rfl⟩
    have HU := hd (hu.ext (ext_drewN _ n))
    have S2 := hd (S1.out.ext (ext_drewN _ n))
    have X2 := hd (X1.out.drewN n)
    clear hu S1 X1
    go_wp2_with fail
    refine (i_signFreeP f j both (f.cs.drop j) _ u _ S2.out HU.out (by have := HLL.out; omega) HLE HPO).mono ?_
    rintro e w3 ⟨rfl, hx3⟩
    have X3 := hd (X2.out.trans hx3)
    clear hx3
    go_wp2
    go_ret2
    exact RetX.mk (by unfold rightNegB; rw [HQ.out, if_pos rfl, Int.toNat_natCast, HBB.out, ← HE.out]; rfl) X3.out
end Go.Proofs.Ythiflbcodbigbaa
