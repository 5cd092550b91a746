import Derived.Test.YtbdcomkbpapcaaaGreatCnf
import Derived.Test.YtbdcomkbpapcaaaGreatC2
/-
  Which formulas are valid: both sides' checks. Conditions: sizes up to 2^20.
-/

namespace Go.Proofs.YtbdcomkbpapcaaaGreat
open Go.RowKit
def goodG (n : Int) : List (List Int) → Bool
  | [] => true
  | c :: r => if clauseB n c then goodG n r else false
def goodB (f : Cnf) : Bool := inB f.n 0 12 && (decide (f.cs.length ≤ 60) && goodG f.n f.cs)
theorem goodG_iff (n : Int) (cs : List (List Int)) : goodG n cs = true ↔ ∀ c ∈ cs, clauseB n c = true := by
  induction cs with
  | nil => simp [goodG]
  | cons c r ih =>
    unfold goodG
    cases h : clauseB n c <;> simp [h, ih]
theorem good_inv {f : Cnf} (h : goodB f = true) : 0 ≤ f.n ∧ f.n ≤ 12 ∧ f.cs.length ≤ 60 ∧ ∀ c ∈ f.cs, clauseB f.n c = true := by
  unfold goodB at h
  rw [Bool.and_eq_true, Bool.and_eq_true, decide_eq_true_eq, goodG_iff] at h
  have := inB_iff.1 h.1
  exact ⟨this.1, this.2, h.2.1, h.2.2⟩
theorem goodB_long {n : Int} {cs : List (List Int)} (h : 60 < cs.length) : goodB ⟨n, cs⟩ = false := by
  unfold goodB
  simp [show ¬ cs.length ≤ 60 by omega]
theorem goodB_ok {n : Int} {cs : List (List Int)} (h : ¬ 60 < cs.length) (hq : inB n 0 12 = true) : goodB ⟨n, cs⟩ = goodG n cs := by
  unfold goodB
  simp [show cs.length ≤ 60 by omega, hq]
theorem Bd_IntSS.cl {xss : List (List Int)} (b : Bd_IntSS xss) : Hid (∀ xs ∈ xss, xs.length ≤ 1073741824) := b.hid
theorem ext_bx {w : World} {o : Obj} {wr : World} (h : Ext (w.alloc o) wr) : Ext w wr := (Ext.new w o).trans h
set_option maxHeartbeats 1600000 in
theorem s_l2Good (f : Cnf) (v : Value) (w : World) (h : Rd_Cnf w v f) (b : Bd_Cnf f) :
    Calls Tryz.prog 40 #[v] w (RetX w (.bool (goodB f))) := by
  obtain ⟨vc, rfl, hC⟩ := h
  obtain ⟨A, c, rfl, h1, h2, ha⟩ := hC.form
  have hl := b.1
  have HLE := b.cl
  clear hC b
  obtain ⟨n, cs⟩ := f
  simp only at *
  obtain ⟨q, hq⟩ : ∃ q, inB n 0 12 = q := ⟨_, rfl⟩
  have HQ := hd hq
  clear hq
  go_enter Tryz.func40, Tryz.ntmps40
  cases q
  · go_wp2_with fail
    refine (rt (s_l2Vars _ _) HQ).mono ?_
    rintro e w1 ⟨rfl, rfl⟩
    go_wp2
    go_ret
    exact RetX.mk (by unfold goodB; rw [HQ.out]; rfl) (Ext.new _ _)
  · by_cases h60 : 60 < cs.length
    · go_wp2_with fail
      refine (rt (s_l2Vars _ _) HQ).mono ?_
      rintro e w1 ⟨rfl, rfl⟩
      go_wp2
      go_ret
      exact RetX.mk (by rw [goodB_long h60]; rfl) (Ext.new _ _)
    · have HG : Hid (goodB ⟨n, cs⟩ = goodG n cs) := hd (goodB_ok h60 HQ.out)
      go_wp2_with fail
      refine (rt (s_l2Vars _ _) HQ).mono ?_
      rintro e w1 ⟨rfl, rfl⟩
      go_wp2
      go_loopw [3] (fun i wr => ∃ k : Nat, k ≤ cs.length ∧ i = .int .i64 k ∧ Hid (goodB ⟨n, cs⟩ = goodG n (cs.drop k)) ∧ Ext (w.alloc (.cells #[.int .i64 n, .slice A cs.length c] 28)) wr) (fun i _ => cs.length - (intOf i).toNat)
      case atStart => exact ⟨0, by omega, rfl, hd HG.out, Ext.refl _⟩
      case round =>
        obtain ⟨k, hk, rfl, HR, hx⟩ := hrel
        have c0 := hx.cell (p := ⟨w.heap.size, 0, none⟩) (u := .int .i64 n) (by simp [go_sem])
        have c1 := hx.cell (p := ⟨w.heap.size, 1, none⟩) (u := .slice A cs.length c) (by simp [go_sem])
        have HX := hd hx
        clear hx
        by_cases hlt : k < cs.length
        · obtain ⟨a, u, rfl, hc0, hr0⟩ := RdSS.at_ ha hlt
          have hc := (ext_bx HX.out).cell hc0
          have HRD := hd (hr0.ext (ext_bx HX.out))
          have hdc : cs.drop k = cs[k] :: cs.drop (k + 1) := List.drop_eq_getElem_cons hlt
          rw [hdc] at HR
          have hxl := hd (HLE.out _ (List.getElem_mem hlt))
          have e1 : (0 : Int) ≤ (k : Int) := by omega
          have e2 : (k : Int) < (cs.length : Int) := by omega
          clear hc0 hr0 hdc
          generalize cs[k] = y at *
          obtain ⟨q, hq⟩ : ∃ q, clauseB n y = q := ⟨_, rfl⟩
          have HB := hd hq
          clear hq
          cases q
          all_goals
            go_wp2_with fail
            go_quiet ((go_at_call 62; first | exact q_drew (rtq (s_l2Clause n y _ _ (by exact HRD.out) hxl.out) HB) | exact q_drew' (rtq (s_l2Clause n y _ _ (by exact HRD.out) hxl.out) HB)))
            go_wp2
          · go_ret
            exact RetX.mk (by rw [HR.out, goodG, HB.out]; rfl) ((ext_bx HX.out).drewN _)
          · go_roundw
            case rel => exact ⟨k + 1, by omega, by go_num, hd (by rw [HR.out, goodG, HB.out]; rfl), HX.out.drewN _⟩
            case measure => simp [intOf]; omega
        · go_wp2
          go_ret
          exact RetX.mk (by rw [HR.out, List.drop_eq_nil_of_le (by omega)]; rfl) (ext_bx HX.out)
set_option maxHeartbeats 1600000 in
theorem i_IsCnf (f : Cnf) (v : Value) (w : World) (h : Rd_Cnf w v f) (b : Bd_Cnf f) :
    Calls Tryz.prog 31 #[v] w (RetX w (.bool (goodB f))) := by
  obtain ⟨vc, rfl, hC⟩ := h
  obtain ⟨A, c, rfl, h1, h2, ha⟩ := hC.form
  have hl := b.1
  have HLE := b.cl
  clear hC b
  obtain ⟨n, cs⟩ := f
  simp only at *
  go_enter Tryz.func31, Tryz.ntmps31
  go_wp2
  go_loopw [8, 4] (fun i _ wr => ∃ k : Nat, k ≤ cs.length ∧ i = .int .i64 k ∧ Hid (goodG n cs = goodG n (cs.drop k)) ∧ Ext (w.alloc (.cells #[.int .i64 n, .slice A cs.length c] 28)) wr) (fun i _ _ => cs.length - (intOf i).toNat)
  case atStart => exact ⟨0, by omega, rfl, hd rfl, Ext.refl _⟩
  case round =>
    obtain ⟨k, hk, rfl, HR, hx⟩ := hrel
    have c0 := hx.cell (p := ⟨w.heap.size, 0, none⟩) (u := .int .i64 n) (by simp [go_sem])
    have c1 := hx.cell (p := ⟨w.heap.size, 1, none⟩) (u := .slice A cs.length c) (by simp [go_sem])
    have HX := hd hx
    clear hx
    by_cases hlt : k < cs.length
    · obtain ⟨a, u, rfl, hc0, hr0⟩ := RdSS.at_ ha hlt
      have hc := (ext_bx HX.out).cell hc0
      have HRD := hd (hr0.ext (ext_bx HX.out))
      have hdc : cs.drop k = cs[k] :: cs.drop (k + 1) := List.drop_eq_getElem_cons hlt
      rw [hdc] at HR
      have hxl := hd (HLE.out _ (List.getElem_mem hlt))
      clear hc0 hr0 hdc
      generalize cs[k] = y at *
      obtain ⟨q, hq⟩ : ∃ q, clauseB n y = q := ⟨_, rfl⟩
      have HB := hd hq
      clear hq
      cases q
      · go_wp2_with fail
        refine (rtq (i_IsClause n y _ _ HRD.out hxl.out) HB).mono ?_
        rintro e w1 ⟨rfl, m, rfl⟩
        go_wp2
        go_ret
        exact RetX.mk (by unfold goodB; simp only; rw [HR.out, goodG, HB.out]; simp) ((ext_bx HX.out).drewN _)
      · go_wp2_with fail
        refine (rtq (i_IsClause n y _ _ HRD.out hxl.out) HB).mono ?_
        rintro e w1 ⟨rfl, m, rfl⟩
        go_wp2
        go_roundw
        case rel => exact ⟨k + 1, by omega, by go_num, hd (by rw [HR.out, goodG, HB.out]; rfl), HX.out.drewN _⟩
        case measure => simp [intOf]; omega
    · have HG : Hid (goodG n cs = true) := hd (by rw [HR.out, List.drop_eq_nil_of_le (by omega)]; rfl)
      obtain ⟨q, hq⟩ : ∃ q, inB n 0 12 = q := ⟨_, rfl⟩
      have HQ := hd hq
      clear hq
      cases q
      · go_wp2_with (go_at_call 50; refine (rt (i_varsOk _ _) HQ).mono ?_; rintro e w1 ⟨rfl, rfl⟩)
        go_ret
        exact RetX.mk (by unfold goodB; rw [HQ.out]; rfl) (ext_bx HX.out)
      · obtain ⟨q, hq⟩ : ∃ q, decide (cs.length ≤ 60) = q := ⟨_, rfl⟩
        have HQ2 := hd hq
        have hq' : decide ((cs.length : Int) ≤ 60) = q := by rw [← hq]; exact decide_eq_decide.2 (by omega)
        clear hq
        cases q
        all_goals
          go_wp2_with (go_at_call 50; refine (rt (i_varsOk _ _) HQ).mono ?_; rintro e w1 ⟨rfl, rfl⟩)
          go_ret
          exact RetX.mk (by unfold goodB; rw [HQ.out, HG.out, HQ2.out]; rfl) (ext_bx HX.out)
end Go.Proofs.YtbdcomkbpapcaaaGreat
