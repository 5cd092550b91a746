import Derived.Test.YtbdcomkbpapcaaaGreatMg3
import Derived.IntWalk
/-
  Clauses: literals, variables, which lists are clauses, and when a clause is true. Conditions: int64 numbers, list lengths up to 2^30.
-/

namespace Go.Proofs.YtbdcomkbpapcaaaGreat
open Go.RowKit

def absI (l : Int) : Int := if l < 0 then -l else l
theorem absI_nonneg (l : Int) : 0 ≤ absI l := by unfold absI; split <;> omega
theorem s_l2Vars (n : Int) (w : World) : Calls Tryz.prog 61 #[.int .i64 n] w (Ret w (.bool (inB n 0 12))) := by
  go_enter Tryz.func61, Tryz.ntmps61
  go_wp2_with fail
  refine (s_l1In _ _ _ _).mono ?_
  rintro e w1 ⟨rfl, rfl⟩
  go_wp2
  go_ret
  exact Ret.mk rfl
theorem i_varsOk (n : Int) (w : World) : Calls Tryz.prog 50 #[.int .i64 n] w (Ret w (.bool (inB n 0 12))) := by
  go_enter Tryz.func50, Tryz.ntmps50
  go_wp2_with fail
  refine (i_within _ _ _ _).mono ?_
  rintro e w1 ⟨rfl, rfl⟩
  go_wp2
  go_ret
  exact Ret.mk rfl
def absW (l : Int) : Int := if wrap64 (-l) ≤ l then l else wrap64 (-l)
theorem absW_eq {l : Int} (h : -9223372036854775807 ≤ l ∧ l ≤ 9223372036854775807) : absW l = absI l := by
  unfold absW absI wrap64
  split <;> split <;> omega
theorem i_abs (l : Int) (w : World) : Calls Tryz.prog 68 #[.int .i64 l] w (Ret w (.int .i64 (absW l))) := by
  by_cases h : wrap64 (-l) ≤ l
  · have HE : Hid (absW l = l) := hd (if_pos h)
    go_enter Tryz.func68, Tryz.ntmps68
    go_wp2
    go_ret
    exact Ret.mk (congrArg (Value.int .i64) HE.out.symm)
  · have HE : Hid (absW l = wrap64 (-l)) := hd (if_neg h)
    go_enter Tryz.func68, Tryz.ntmps68
    go_wp2
    go_ret
    exact Ret.mk (congrArg (Value.int .i64) HE.out.symm)
theorem s_l2Var (l : Int) (w : World) (h : -1000 ≤ l ∧ l ≤ 1000) : Calls Tryz.prog 46 #[.int .i64 l] w (Ret w (.int .i64 (absI l))) := by
  go_enter Tryz.func46, Tryz.ntmps46
  by_cases h0 : l < 0
  all_goals
    go_wp2
    go_ret
    exact Ret.mk (by unfold absI; first | (rw [if_pos (by omega)]; rfl) | (rw [if_neg (by omega)]; rfl))
def litB (n l : Int) : Bool := inB l (-n) n && (l != 0)
theorem litB_iff {n l : Int} : litB n l = true ↔ -n ≤ l ∧ l ≤ n ∧ l ≠ 0 := by
  unfold litB
  rw [Bool.and_eq_true, inB_iff]
  simp [and_assoc]
def litW (n l : Int) : Bool := (l != 0) && inB l (wrap64 (-n)) n
theorem litW_eq {n l : Int} (h : 0 ≤ n ∧ n ≤ 12) : litW n l = litB n l := by
  have e : wrap64 (-n) = -n := by unfold wrap64; omega
  unfold litW litB
  rw [e, Bool.and_comm]
theorem s_l2Lit (n l : Int) (w : World) (h : 0 ≤ n ∧ n ≤ 12) : Calls Tryz.prog 83 #[.int .i64 n, .int .i64 l] w (Ret w (.bool (litB n l))) := by
  obtain ⟨h1, h2⟩ := h
  obtain ⟨b, hb⟩ : ∃ b, inB l (-n) n = b := ⟨_, rfl⟩
  have HB := hd hb
  have HL : Hid (litB n l = (b && (l != 0))) := hd (by unfold litB; rw [hb])
  clear hb
  go_enter Tryz.func83, Tryz.ntmps83
  cases b
  all_goals
    go_wp2_with (go_at_call 41; refine (rt (s_l1In _ _ _ _) HB).mono ?_; rintro e w1 ⟨rfl, rfl⟩)
    go_ret
    exact Ret.mk (by rw [HL.out]; rfl)
theorem i_isLiteral (n l : Int) (w : World) : Calls Tryz.prog 67 #[.int .i64 n, .int .i64 l] w (Ret w (.bool (litW n l))) := by
  by_cases h : l = 0
  · have hb : (l != 0) = false := by simp [h]
    have HL : Hid (litW n l = false) := hd (by unfold litW; rw [hb]; rfl)
    clear h
    go_enter Tryz.func67, Tryz.ntmps67
    go_wp2
    go_ret
    exact Ret.mk (by rw [HL.out]; rfl)
  · have hb : (l != 0) = true := by simp [h]
    have HL : Hid (litW n l = inB l (wrap64 (-n)) n) := hd (by unfold litW; rw [hb]; rfl)
    clear h
    go_enter Tryz.func67, Tryz.ntmps67
    go_wp2_with fail
    refine (i_within _ _ _ _).mono ?_
    rintro e w1 ⟨rfl, rfl⟩
    go_wp2
    go_ret
    exact Ret.mk (by rw [HL.out]; rfl)
/-- Literals of ascending variables, behind one (or none). -/
def clG (n : Int) : Option Int → List Int → Bool
  | _, [] => true
  | none, x :: r => if litB n x then clG n (some x) r else false
  | some p, x :: r => if litB n x then (if absI p < absI x then clG n (some x) r else false) else false
def clauseB (n : Int) (xs : List Int) : Bool := inB n 0 12 && clG n none xs
def clGW (n : Int) : Option Int → List Int → Bool
  | _, [] => true
  | none, x :: r => if litW n x then clGW n (some x) r else false
  | some p, x :: r => if litW n x then (if absW p < absW x then clGW n (some x) r else false) else false
theorem clGW_eq {n : Int} (h : 0 ≤ n ∧ n ≤ 12) : ∀ (xs : List Int) (o : Option Int), (∀ p, o = some p → litB n p = true) → clGW n o xs = clG n o xs
  | [], o, _ => by cases o <;> rfl
  | x :: r, none, _ => by
    unfold clGW clG
    rw [litW_eq h]
    cases hx : litB n x with
    | false => rfl
    | true => exact clGW_eq h r _ fun p hp => by injection hp with hp; subst hp; exact hx
  | x :: r, some p, hp => by
    have hp' := litB_iff.1 (hp p rfl)
    unfold clGW clG
    rw [litW_eq h]
    cases hx : litB n x with
    | false => rfl
    | true =>
      have hx' := litB_iff.1 hx
      rw [absW_eq (by omega), absW_eq (by omega), clGW_eq h r _ fun q hq => by injection hq with hq; subst hq; exact hx]
theorem clauseW_eq (n : Int) (xs : List Int) : (clGW n none xs && inB n 0 12) = clauseB n xs := by
  unfold clauseB
  cases h : inB n 0 12 with
  | false => simp
  | true => rw [clGW_eq (inB_iff.1 h) xs none (fun p hp => by cases hp)]; simp
theorem clG_lit {n : Int} : ∀ (xs : List Int) (o : Option Int), clG n o xs = true → ∀ x ∈ xs, litB n x = true
  | [], _, _, x, hx => by simp at hx
  | y :: r, o, h, x, hx => by
    have key : litB n y = true ∧ clG n (some y) r = true := by
      cases o with
      | none =>
        unfold clG at h
        split at h
        · rename_i h1; exact ⟨h1, h⟩
        · cases h
      | some p =>
        unfold clG at h
        split at h
        · rename_i h1
          split at h
          · exact ⟨h1, h⟩
          · cases h
        · cases h
    rcases List.mem_cons.1 hx with rfl | hx
    · exact key.1
    · exact clG_lit r _ key.2 x hx
theorem clG_len {n : Int} : ∀ (xs : List Int) (p : Int), clG n (some p) xs = true → (xs.length : Int) ≤ n - absI p ∨ xs = []
  | [], _, _ => .inr rfl
  | y :: r, p, h => by
    left
    unfold clG at h
    split at h
    · rename_i h1
      have h1' := litB_iff.1 h1
      split at h
      · rename_i h2
        have hy : absI y ≤ n := by unfold absI; split <;> omega
        rcases clG_len r y h with h3 | rfl
        · simp; omega
        · simp; omega
      · cases h
    · cases h
theorem clause_inv {n : Int} {xs : List Int} (h : clauseB n xs = true) : 0 ≤ n ∧ n ≤ 12 ∧ (∀ x ∈ xs, -n ≤ x ∧ x ≤ n ∧ x ≠ 0) ∧ (xs.length : Int) ≤ n := by
  unfold clauseB at h
  rw [Bool.and_eq_true] at h
  have h1 := inB_iff.1 h.1
  refine ⟨h1.1, h1.2, fun x hx => litB_iff.1 (clG_lit xs none h.2 x hx), ?_⟩
  cases xs with
  | nil => simp; omega
  | cons y r =>
    have h2 := h.2
    unfold clG at h2
    split at h2
    · rename_i h3
      have h3' := litB_iff.1 h3
      have hy : 1 ≤ absI y ∧ absI y ≤ n := by unfold absI; split <;> omega
      rcases clG_len r y h2 with h4 | rfl
      · simp; omega
      · simp; omega
    · cases h2
set_option maxRecDepth 100000 in
set_option maxHeartbeats 1600000 in
theorem s_l2Clause (n : Int) (xs : List Int) (v : Value) (w : World) (h : RdI w v xs) (hl : xs.length ≤ 1073741824) :
    Calls Tryz.prog 62 #[.int .i64 n, v] w (RetQ w (.bool (clauseB n xs))) := by
  obtain ⟨A, c, rfl, h1, h2, ha⟩ := h.form
  clear h
  obtain ⟨b, hb⟩ : ∃ b, inB n 0 12 = b := ⟨_, rfl⟩
  have HB := hd hb
  go_enter Tryz.func62, Tryz.ntmps62
  cases b
  · clear hb
    go_wp2_with (go_at_call 61; refine (rt (s_l2Vars _ _) HB).mono ?_; rintro e w1 ⟨rfl, rfl⟩)
    go_ret
    exact RetQ.mk (by unfold clauseB; rw [HB.out]; rfl)
  · obtain ⟨hn1, hn2⟩ := inB_iff.1 hb
    clear hb
    have HC : Hid (clauseB n xs = clG n none xs) := hd (by unfold clauseB; rw [HB.out]; rfl)
    go_wp2_with (go_at_call 61; refine (rt (s_l2Vars _ _) HB).mono ?_; rintro e w1 ⟨rfl, rfl⟩)
    go_loopw [5] (fun i wr => ∃ k m : Nat, k ≤ xs.length ∧ i = .int .i64 k ∧ Hid (clauseB n xs = clG n (if k = 0 then none else xs[k - 1]?) (xs.drop k)) ∧ Hid (∀ p, k ≠ 0 → xs[k - 1]? = some p → -n ≤ p ∧ p ≤ n) ∧ wr = w.drewN m) (fun i _ => xs.length - (intOf i).toNat)
    case atStart => exact ⟨0, 0, by omega, rfl, HC, hd (fun p h => absurd rfl h), rfl⟩
    case round =>
      clear HC
      obtain ⟨k, m, hk, rfl, HR, HPB, rfl⟩ := hrel
      by_cases hlt : k < xs.length
      · obtain ⟨a, rfl, hc⟩ := RdI.at_ ha hlt
        rw [drop_cons hlt] at HR
        have e1 : (0 : Int) ≤ (k : Int) := by omega
        have e2 : (k : Int) < (xs.length : Int) := by omega
        have HX : Hid (xs[k]? = some xs[k]) := hd (List.getElem?_eq_getElem hlt)
        generalize xs[k] = y at *
        obtain ⟨q, hq⟩ : ∃ q, litB n y = q := ⟨_, rfl⟩
        have HQ := hd hq
        have HQL : Hid (q = true → -n ≤ y ∧ y ≤ n) := hd fun e => by have := litB_iff.1 (hq.trans e); omega
        clear hq
        rcases Nat.eq_zero_or_pos k with rfl | hpos
        · rw [Addr.add_zero'] at hc
          have e3 : decide ((0 : Int) < ((0 : Nat) : Int)) = false := rfl
          cases q
          all_goals
            go_wp2_with fail
            go_quiet ((go_at_call 83; first | exact q_same (rt (s_l2Lit _ _ _ (by omega)) HQ) | exact q_same' (rt (s_l2Lit _ _ _ (by omega)) HQ)))
            go_wp2
          · go_ret
            rw [World.drewN_drewN]
            exact RetQ.mkN (by rw [HR.out]; simp [clG, HQ.out])
          · go_roundw
            case rel => exact ⟨1, _, by omega, by go_num, hd (by rw [HR.out]; simp [clG, HQ.out]; rw [HX.out]), hd (fun p _ hp => by rw [HX.out] at hp; injection hp with hp; subst hp; exact HQL.out (by simp)), rfl⟩
            case measure => simp [intOf]; omega
        · obtain ⟨a', ha', hc'⟩ := RdI.at_ ha (k := k - 1) (by omega)
          cases ha'
          have HP : Hid (xs[k - 1]? = some (xs[k - 1]'(by omega))) := hd (List.getElem?_eq_getElem (by omega))
          have hpb := HPB.out _ (by omega) HP.out
          generalize xs[k - 1]'(by omega) = p at *
          obtain ⟨hp1, hp2⟩ := hpb
          have e3 : decide ((0 : Int) < (k : Int)) = true := by simp; omega
          have e4 : (0 : Int) ≤ (k : Int) - 1 := by omega
          have e5 : (k : Int) - 1 < (xs.length : Int) := by omega
          have hc2 : w.cell? (a.add ((k : Int) - 1).toNat) = some (.int .i64 p) := by rw [show ((k : Int) - 1).toNat = k - 1 from by omega]; exact hc'
          have HK : Hid (k ≠ 0) := hd (by omega)
          cases q
          · go_wp2_with fail
            go_quiet ((go_at_call 83; first | exact q_same (rt (s_l2Lit _ _ _ (by omega)) HQ) | exact q_same' (rt (s_l2Lit _ _ _ (by omega)) HQ)))
            go_wp2
            go_ret
            rw [World.drewN_drewN]
            exact RetQ.mkN (by rw [HR.out, if_neg HK.out, HP.out]; simp [clG, HQ.out])
          · obtain ⟨hy1, hy2⟩ := HQL.out rfl
            obtain ⟨ap, hap⟩ : ∃ q, absI p = q := ⟨_, rfl⟩
            obtain ⟨ay, hay⟩ : ∃ q, absI y = q := ⟨_, rfl⟩
            have HAP := hd hap
            have HAY := hd hay
            clear hap hay
            by_cases hlt2 : ap < ay
            all_goals
              go_wp2_with fail
              go_quiet ((first | (go_at_call 83; first | exact q_same (rt (s_l2Lit _ _ _ (by omega)) HQ) | exact q_same' (rt (s_l2Lit _ _ _ (by omega)) HQ)) | (go_at_call 46; first | exact q_same (rv (s_l2Var _ _ (by omega)) (hd (congrArg (Value.int .i64) HAP.out))) | exact q_same' (rv (s_l2Var _ _ (by omega)) (hd (congrArg (Value.int .i64) HAP.out))) | exact q_same (rv (s_l2Var _ _ (by omega)) (hd (congrArg (Value.int .i64) HAY.out))) | exact q_same' (rv (s_l2Var _ _ (by omega)) (hd (congrArg (Value.int .i64) HAY.out))))))
              go_wp2
            · go_roundw
              case rel => exact ⟨k + 1, _, by omega, by go_num, hd (by rw [HR.out, if_neg HK.out, HP.out, if_neg (by omega), Nat.add_sub_cancel, HX.out]; simp [clG, HQ.out, HAP.out, HAY.out, hlt2]), hd (fun p _ hp => by rw [Nat.add_sub_cancel, HX.out] at hp; injection hp with hp; subst hp; exact HQL.out (by simp)), rfl⟩
              case measure => simp [intOf]; omega
            · go_ret
              rw [World.drewN_drewN]
              exact RetQ.mkN (by rw [HR.out, if_neg HK.out, HP.out]; simp [clG, HQ.out, HAP.out, HAY.out]; intro h; omega)
      · go_wp2
        go_ret
        exact RetQ.mkN (by rw [HR.out, List.drop_eq_nil_of_le (by omega)]; unfold clG; rfl)
set_option maxRecDepth 100000 in
set_option maxHeartbeats 1600000 in
theorem i_IsClause (n : Int) (xs : List Int) (v : Value) (w : World) (h : RdI w v xs) (hl : xs.length ≤ 1073741824) :
    Calls Tryz.prog 49 #[.int .i64 n, v] w (RetQ w (.bool (clauseB n xs))) := by
  obtain ⟨A, c, rfl, h1, h2, ha⟩ := h.form
  clear h
  have HCW := hd (clauseW_eq n xs)
  go_enter Tryz.func49, Tryz.ntmps49
  go_wp2
  go_loopw [9, 5, 6] (fun i _ _ wr => ∃ k m : Nat, k ≤ xs.length ∧ i = .int .i64 k ∧ Hid (clGW n none xs = clGW n (if k = 0 then none else xs[k - 1]?) (xs.drop k)) ∧ wr = w.drewN m) (fun i _ _ _ => xs.length - (intOf i).toNat)
  case atStart => exact ⟨0, 0, by omega, rfl, hd rfl, rfl⟩
  case round =>
    obtain ⟨k, m, hk, rfl, HR, rfl⟩ := hrel
    by_cases hlt : k < xs.length
    · obtain ⟨a, rfl, hc⟩ := RdI.at_ ha hlt
      rw [drop_cons hlt] at HR
      have e1 : (0 : Int) ≤ (k : Int) := by omega
      have e2 : (k : Int) < (xs.length : Int) := by omega
      have HX : Hid (xs[k]? = some xs[k]) := hd (List.getElem?_eq_getElem hlt)
      generalize xs[k] = y at *
      obtain ⟨q, hq⟩ : ∃ q, litW n y = q := ⟨_, rfl⟩
      have HQ := hd hq
      clear hq
      rcases Nat.eq_zero_or_pos k with rfl | hpos
      · rw [Addr.add_zero'] at hc
        have e3 : decide ((0 : Int) < ((0 : Nat) : Int)) = false := rfl
        cases q
        all_goals
          go_wp2_with fail
          go_quiet ((go_at_call 67; first | exact q_same (rt (i_isLiteral _ _ _) HQ) | exact q_same' (rt (i_isLiteral _ _ _) HQ)))
          go_wp2
        · go_ret
          rw [World.drewN_drewN]
          exact RetQ.mkN (by rw [← HCW.out, HR.out]; simp [clGW, HQ.out])
        · go_roundw
          case rel => exact ⟨1, _, by omega, by go_num, hd (by rw [HR.out]; simp [clGW, HQ.out]; rw [HX.out]), rfl⟩
          case measure => simp [intOf]; omega
      · obtain ⟨a', ha', hc'⟩ := RdI.at_ ha (k := k - 1) (by omega)
        cases ha'
        have HP : Hid (xs[k - 1]? = some (xs[k - 1]'(by omega))) := hd (List.getElem?_eq_getElem (by omega))
        generalize xs[k - 1]'(by omega) = p at *
        have e3 : decide ((0 : Int) < (k : Int)) = true := by simp; omega
        have e4 : (0 : Int) ≤ (k : Int) - 1 := by omega
        have e5 : (k : Int) - 1 < (xs.length : Int) := by omega
        have hc2 : w.cell? (a.add ((k : Int) - 1).toNat) = some (.int .i64 p) := by rw [show ((k : Int) - 1).toNat = k - 1 from by omega]; exact hc'
        have HK : Hid (k ≠ 0) := hd (by omega)
        cases q
        · go_wp2_with fail
          go_quiet ((go_at_call 67; first | exact q_same (rt (i_isLiteral _ _ _) HQ) | exact q_same' (rt (i_isLiteral _ _ _) HQ)))
          go_wp2
          go_ret
          rw [World.drewN_drewN]
          exact RetQ.mkN (by rw [← HCW.out, HR.out, if_neg HK.out, HP.out]; simp [clGW, HQ.out])
        · obtain ⟨ap, hap⟩ : ∃ q, absW p = q := ⟨_, rfl⟩
          obtain ⟨ay, hay⟩ : ∃ q, absW y = q := ⟨_, rfl⟩
          have HAP := hd hap
          have HAY := hd hay
          clear hap hay
          by_cases hlt2 : ap < ay
          all_goals
            go_wp2_with fail
            go_quiet ((first | (go_at_call 67; first | exact q_same (rt (i_isLiteral _ _ _) HQ) | exact q_same' (rt (i_isLiteral _ _ _) HQ)) | (go_at_call 68; first | exact q_same (rv (i_abs _ _) (hd (congrArg (Value.int .i64) HAP.out))) | exact q_same' (rv (i_abs _ _) (hd (congrArg (Value.int .i64) HAP.out))) | exact q_same (rv (i_abs _ _) (hd (congrArg (Value.int .i64) HAY.out))) | exact q_same' (rv (i_abs _ _) (hd (congrArg (Value.int .i64) HAY.out))))))
            go_wp2
          · go_roundw
            case rel => exact ⟨k + 1, _, by omega, by go_num, hd (by rw [HR.out, if_neg HK.out, HP.out, if_neg (by omega), Nat.add_sub_cancel, HX.out]; simp [clGW, HQ.out, HAP.out, HAY.out, hlt2]), rfl⟩
            case measure => simp [intOf]; omega
          · go_ret
            rw [World.drewN_drewN]
            exact RetQ.mkN (by rw [← HCW.out, HR.out, if_neg HK.out, HP.out]; simp [clGW, HQ.out, HAP.out, HAY.out]; intro h; omega)
    · go_wp2_with fail
      refine (i_varsOk _ _).mono ?_
      rintro e w1 ⟨rfl, rfl⟩
      go_wp2
      go_ret
      exact RetQ.mkN (by rw [← HCW.out, HR.out, List.drop_eq_nil_of_le (by omega)]; unfold clGW; rfl)
/-- A literal is true for bits; a clause is. -/
def litT (b : Nat) (l : Int) : Bool := (bitN b (absI l - 1).toNat == 1) == decide (0 < l)
def trueB (b : Nat) (xs : List Int) : Bool := anyI (litT b) xs
end Go.Proofs.YtbdcomkbpapcaaaGreat
