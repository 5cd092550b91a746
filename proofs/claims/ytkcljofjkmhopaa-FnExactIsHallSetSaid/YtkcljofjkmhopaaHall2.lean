/-
  IsHallSet of both sides, the ends. Condition: sizes up to 2^20.
-/
import Derived.Test.YtkcljofjkmhopaaHall
import Derived.Test.YtkcljofjkmhopaaLaw
namespace Go.Proofs.Ytkcljofjkmhopaa
open Go.RowKit
theorem risingG_mem {lo hi : Int} : ∀ (xs : List Int) (o : Option Int), risingG lo hi o xs = true → ∀ x ∈ xs, lo ≤ x ∧ x ≤ hi
  | [], _, _, x, hx => by simp at hx
  | y :: r, o, h, x, hx => by
    have key : inB y lo hi = true ∧ risingG lo hi (some y) r = true := by
      cases o with
      | none => unfold risingG at h; split at h
                · rename_i hb; exact ⟨hb, h⟩
                · cases h
      | some p => unfold risingG at h; split at h
                  · rename_i hb; split at h
                    · exact ⟨hb, h⟩
                    · cases h
                  · cases h
    rcases List.mem_cons.1 hx with rfl | hx
    · exact inB_iff.1 key.1
    · exact risingG_mem r _ key.2 x hx
theorem choiceG_mem : ∀ (xss : List (List Int)), choiceG xss = true → ∀ xs ∈ xss, risingB 1 3 xs = true
  | [], _, xs, hx => by simp at hx
  | y :: r, h, xs, hx => by
    unfold choiceG at h
    split at h
    · rename_i hb
      rcases List.mem_cons.1 hx with rfl | hx
      · exact hb
      · exact choiceG_mem r h xs hx
    · cases h
theorem choice_inv {xss : List (List Int)} (h : choiceB xss = true) : 1 ≤ xss.length ∧ xss.length ≤ 4 ∧ (∀ xs ∈ xss, xs.length ≤ 3) ∧ (∀ xs ∈ xss, ∀ x ∈ xs, 1 ≤ x ∧ x ≤ 12) := by
  unfold choiceB at h
  rw [Bool.and_eq_true] at h
  have h1 := inB_iff.1 h.1
  refine ⟨by omega, by omega, fun xs hx => rising13_len (choiceG_mem xss h.2 xs hx), fun xs hx x hxx => ?_⟩
  have := risingG_mem xs none (choiceG_mem xss h.2 xs hx) x hxx
  omega
theorem rising_len1 {n : Nat} {sm : List Int} (h : risingB 1 n sm = true) : sm.length ≤ n := by
  cases sm with
  | nil => simp
  | cons x r =>
    unfold risingB risingG at h
    split at h
    · rename_i hb
      rw [inB_iff] at hb
      rcases rising_len 1 n r x h (by omega) with h2 | rfl
      · simp; omega
      · simp; omega
    · cases h
/-- The two ways to ask for a rising list of pigeons. -/
theorem ask_G {n : Int} : ∀ (xs : List Int) (o : Option Int), (∀ p, o = some p → 1 ≤ p) → (clG n o xs && !anyI (fun i => decide (i < 0)) xs) = risingG 1 n o xs
  | [], o, _ => by cases o <;> rfl
  | x :: r, o, ho => by
    by_cases hx : x < 0
    · have hn : inB x 1 n = false := by
        cases hb : inB x 1 n with
        | false => rfl
        | true => have := inB_iff.1 hb; omega
      have ha : anyI (fun i => decide (i < 0)) (x :: r) = true := by simp [anyI, hx]
      rw [ha]
      cases o <;> simp [risingG, hn]
    · have ha : anyI (fun i => decide (i < 0)) (x :: r) = anyI (fun i => decide (i < 0)) r := by simp [anyI, hx]
      have hl : litB n x = inB x 1 n := by
        rw [Bool.eq_iff_iff, litB_iff, inB_iff]
        omega
      rw [ha]
      cases hb : inB x 1 n with
      | false => cases o <;> simp [clG, risingG, hl, hb]
      | true =>
        have h1 := inB_iff.1 hb
        have ih := ask_G (n := n) r (some x) (by intro p hp; obtain rfl := Option.some.inj hp; omega)
        have hax : absI x = x := by unfold absI; rw [if_neg (by omega)]
        cases o with
        | none => simp only [clG, risingG, hl, hb, if_true]; exact ih
        | some p =>
          have hp := ho p rfl
          have hap : absI p = p := by unfold absI; rw [if_neg (by omega)]
          simp only [clG, risingG, hl, hb, if_true, hax, hap]
          by_cases hpx : p < x
          · simp only [hpx, if_true]; exact ih
          · simp [hpx]
theorem hall_ask {n : Nat} (hn : n ≤ 12) (sm : List Int) : (clauseB n sm && !anyI (fun i => decide (i < 0)) sm) = risingB 1 n sm := by
  have : inB (n : Int) 0 12 = true := inB_iff.2 (by omega)
  unfold clauseB risingB
  rw [this, Bool.true_and]
  exact ask_G sm none (by simp)
def hallAsk (xss : List (List Int)) (sm : List Int) : Bool := choiceB xss && risingB 1 xss.length sm
def hallSetB (xss : List (List Int)) (sm : List Int) : Bool := hallAsk xss sm && hallB xss sm
set_option maxHeartbeats 1600000 in
theorem s_IsHallSet (xss : List (List Int)) (v : Value) (sm : List Int) (sv : Value) (w : World) (h : RdSS w v xss) (b : Bd_IntSS xss) (_ : I64_IntSS xss) (hs : RdI w sv sm) (bs : Bd_IntS sm) (_ : I64_IntS sm) :
    Calls Try.prog 37 #[v, sv] w (RetX w (.tuple #[.bool (hallSetB xss sm), .bool (hallAsk xss sm)])) := by
  have HR := hd h
  have HS := hd hs
  have HB := hd b
  have HBS := hd bs
  obtain ⟨A, c, rfl, h1, h2, ha⟩ := h.form
  obtain ⟨B, d, rfl, h3, h4, hb⟩ := hs.form
  clear h hs b bs
  obtain ⟨q, hq⟩ : ∃ q, choiceB xss = q := ⟨_, rfl⟩
  have HQ := hd hq
  have HI := hd (fun e => choice_inv (hq.trans e) : q = true → _)
  clear hq
  cases q
  · have HN : Hid (hallAsk xss sm = false) := hd (by unfold hallAsk; rw [HQ.out]; rfl)
    have HN2 : Hid (hallSetB xss sm = false) := hd (by unfold hallSetB; rw [HN.out]; rfl)
    go_enter Try.func37, Try.ntmps37
    go_wp2_with fail
    refine (rtq (s_l28Choice xss _ _ HR.out (by have := HB.out.1; omega) HB.out.hid) HQ).mono ?_
    rintro e w1 ⟨rfl, n, rfl⟩
    go_wp2
    go_ret2
    exact RetX.mk (by rw [HN.out, HN2.out]; first | done | rfl) (ext_drewN _ _)
  · obtain ⟨hl1, hl4, hlen0, hel0⟩ := HI.out rfl
    have HLEN := hd hlen0
    clear hlen0 hel0 HI
    obtain ⟨r, hr⟩ : ∃ r, risingB 1 xss.length sm = r := ⟨_, rfl⟩
    have HRS := hd hr
    have HL1 := hd (fun e => rising_len1 (hr.trans e) : r = true → _)
    have HM := hd (fun e => risingG_mem sm none (hr.trans e) : r = true → _)
    clear hr
    have HA : Hid (hallAsk xss sm = r) := hd (by unfold hallAsk; rw [HQ.out, HRS.out]; rfl)
    go_enter Try.func37, Try.ntmps37
    go_wp2_with fail
    refine (rtq (s_l28Choice xss _ _ HR.out (by have := HB.out.1; omega) HB.out.hid) HQ).mono ?_
    rintro e w1 ⟨rfl, n, rfl⟩
    have X1 : Hid (Ext w (w.drewN n)) := hd (ext_drewN _ _)
    go_wp2_with fail
    refine (rtq (s_l1Rising sm _ _ _ _ (HS.out.ext X1.out) (by have := HBS.out; unfold Bd_IntS at this; omega)) HRS).mono ?_
    rintro e w1 ⟨rfl, n', rfl⟩
    have X2 : Hid (Ext w (w.drewN (n + n'))) := hd (ext_drewN _ _)
    cases r
    · have HN2 : Hid (hallSetB xss sm = false) := hd (by unfold hallSetB; rw [HA.out]; rfl)
      go_wp2
      go_ret2
      exact RetX.mk (by rw [HA.out, HN2.out]; first | done | rfl) X2.out
    · have hsl := HL1.out rfl
      have HN2 : Hid (hallSetB xss sm = hallB xss sm) := hd (by unfold hallSetB; rw [HA.out]; rfl)
      go_wp2_with fail
      refine (s_l28Holes xss sm _ _ _ (HR.out.ext X2.out) (HS.out.ext X2.out) (by omega) HLEN (by omega) (hd (HM.out (by trivial)))).mono ?_
      rintro e w1 ⟨rfl, hx3⟩
      go_wp2
      go_ret2
      exact RetX.mk (by rw [HA.out, HN2.out]; unfold hallB; simp; first | done | rfl) (X2.out.trans hx3)
theorem enters_IsHallSet1 : Enters 91 := fun args w => by kernel_rfl
theorem i_IsHallSet1 (x : Int) (w : World) : Calls Try.prog 91 #[.int .i64 x] w (Ret w (.bool (decide (x < 0)))) := by
  go_enter Try.func91, Try.ntmps91
  go_wp2
  go_ret
  exact Ret.mk rfl
set_option maxHeartbeats 1600000 in
theorem i_IsHallSet (xss : List (List Int)) (v : Value) (sm : List Int) (sv : Value) (w : World) (h : RdSS w v xss) (b : Bd_IntSS xss) (_ : I64_IntSS xss) (hs : RdI w sv sm) (bs : Bd_IntS sm) (_ : I64_IntS sm) :
    Calls Try.prog 39 #[v, sv] w (RetX w (.tuple #[.bool (hallSetB xss sm), .bool (hallAsk xss sm)])) := by
  have HR := hd h
  have HS := hd hs
  have HB := hd b
  have HBS := hd bs
  obtain ⟨A, c, rfl, h1, h2, ha⟩ := h.form
  obtain ⟨B, d, rfl, h3, h4, hb⟩ := hs.form
  clear h hs b bs
  obtain ⟨q, hq⟩ : ∃ q, choiceB xss = q := ⟨_, rfl⟩
  have HQ := hd hq
  have HI := hd (fun e => choice_inv (hq.trans e) : q = true → _)
  clear hq
  cases q
  · have HN : Hid (hallAsk xss sm = false) := hd (by unfold hallAsk; rw [HQ.out]; rfl)
    have HN2 : Hid (hallSetB xss sm = false) := hd (by unfold hallSetB; rw [HN.out]; rfl)
    go_enter Try.func39, Try.ntmps39
    go_wp2_with fail
    refine (rt (i_IsChoice xss _ _ HR.out (by have := HB.out.1; omega) HB.out.hid) HQ).mono ?_
    rintro e w1 ⟨rfl, rfl⟩
    go_wp2
    go_ret2
    exact RetX.mk (by rw [HN.out, HN2.out]; first | done | rfl) (Ext.refl _)
  · obtain ⟨hl1, hl4, hlen0, hel0⟩ := HI.out rfl
    have HLEN := hd hlen0
    have HEL := hd hel0
    clear hlen0 hel0 HI
    have HASK := hd (hall_ask (n := xss.length) (by omega) sm)
    obtain ⟨r, hr⟩ : ∃ r, clauseB xss.length sm = r := ⟨_, rfl⟩
    have HRS := hd hr
    clear hr
    go_enter Try.func39, Try.ntmps39
    go_wp2_with fail
    refine (rt (i_IsChoice xss _ _ HR.out (by have := HB.out.1; omega) HB.out.hid) HQ).mono ?_
    rintro e w1 ⟨rfl, rfl⟩
    go_wp2_with fail
    refine (rtq (i_IsClause xss.length sm _ _ HS.out (by have := HBS.out; unfold Bd_IntS at this; omega)) HRS).mono ?_
    rintro e w1 ⟨rfl, n', rfl⟩
    have X2 : Hid (Ext w (w.drewN n')) := hd (ext_drewN _ _)
    cases r
    · have HA : Hid (hallAsk xss sm = false) := hd (by unfold hallAsk; rw [← HASK.out, HRS.out]; simp)
      have HN2 : Hid (hallSetB xss sm = false) := hd (by unfold hallSetB; rw [HA.out]; rfl)
      go_wp2
      go_ret2
      exact RetX.mk (by rw [HA.out, HN2.out]; first | done | rfl) X2.out
    · have HAN : Hid (AnsQ 91 #[] (fun i => decide (i < 0)) sm (w.drewN n')) := hd fun x _ m => (i_IsHallSet1 x _).mono fun e w' ⟨h1, h2⟩ => ⟨h1, 0, h2.symm⟩
      obtain ⟨t, ht⟩ : ∃ t, anyI (fun i => decide (i < 0)) sm = t := ⟨_, rfl⟩
      have HT := hd ht
      clear ht
      go_wp2_with fail
      refine (rtq (slices_ContainsFunc sm _ _ _ _ _ (HS.out.ext X2.out) (by have := HBS.out; unfold Bd_IntS at this; omega) enters_IsHallSet1 HAN) HT).mono ?_
      rintro e w1 ⟨rfl, n2, rfl⟩
      have X3 : Hid (Ext w (w.drewN (n' + n2))) := hd (ext_drewN _ _)
      have HA : Hid (hallAsk xss sm = !t) := hd (by unfold hallAsk; rw [← HASK.out, HRS.out, HT.out, HQ.out]; simp)
      cases t
      · have HN2 : Hid (hallSetB xss sm = hallB xss sm) := hd (by unfold hallSetB; rw [HA.out]; rfl)
        have HRI : Hid (risingB 1 xss.length sm = true) := hd (by have := HA.out; unfold hallAsk at this; rw [HQ.out] at this; simpa using this)
        have hsl := rising_len1 HRI.out
        have HM := hd (risingG_mem sm none HRI.out)
        go_wp2_with fail
        refine (i_isHall xss sm _ _ _ (HR.out.ext X3.out) (HS.out.ext X3.out) (by omega) HLEN HEL (by omega) HM).mono ?_
        rintro e w1 ⟨rfl, hx3⟩
        go_wp2
        go_ret2
        exact RetX.mk (by rw [HA.out, HN2.out]; first | done | rfl) (X3.out.trans hx3)
      · have HN2 : Hid (hallSetB xss sm = false) := hd (by unfold hallSetB; rw [HA.out]; rfl)
        go_wp2
        go_ret2
        exact RetX.mk (by rw [HA.out, HN2.out]; first | done | rfl) X3.out
end Go.Proofs.Ytkcljofjkmhopaa
