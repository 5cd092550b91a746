import Derived.Test.YtbdcomkbpapcaaaGreatGfS
import Derived.Test.YtbdcomkbpapcaaaGreatHoX
import Derived.Test.YtbdcomkbpapcaaaGreatGfD
/-
  Greatest families, the program's small words: what is asked, what is allowed, codes, open variables. Conditions: at most 60 clauses of literals within 12, at most six variables.
-/

namespace Go.Proofs.YtbdcomkbpapcaaaGreat
open Go.RowKit Seed
theorem i_narrowOk (f : Cnf) (x : Int) (v : Value) (w : World) (h : Rd_Cnf w v f) (b : Bd_Cnf f) :
    Calls Tryz.prog 18 #[v, .int .i64 x] w (RetX w (.bool (askF f x))) := by
  have HV := hd h
  have HB := hd b
  obtain ⟨A, c, rfl⟩ := h.form
  clear h b
  obtain ⟨q, hq⟩ : ∃ q, goodB f = q := ⟨_, rfl⟩
  obtain ⟨p, hp⟩ : ∃ p, inB x 0 6 = p := ⟨_, rfl⟩
  have HP := hd hp
  have HC := hd (rtx (i_IsCnf f _ _ (HV.out.ext (Ext.new w (.cells #[.int .i64 f.n, .slice A f.cs.length c] 28))) HB.out) (hd hq))
  cases q
  · have HE : Hid (askF f x = false) := hd (by unfold askF smlB; rw [hq]; cases decide (f.n ≤ 6) <;> rfl)
    rw [HE.out]
    clear hq hp
    go_enter Tryz.func18, Tryz.ntmps18
    go_wp2_with fail
    refine HC.out.mono ?_
    rintro e w1 ⟨rfl, hx1⟩
    have X1 := hd ((Ext.new _ _).trans hx1)
    clear hx1
    go_wp2
    go_ret
    exact RetX.mk rfl X1.out
  · by_cases h6 : f.n ≤ 6
    · have HE : Hid (askF f x = p) := hd (by unfold askF smlB; rw [hq, hp, decide_eq_true h6]; rfl)
      rw [HE.out]
      clear hq hp
      go_enter Tryz.func18, Tryz.ntmps18
      go_wp2_with fail
      refine HC.out.mono ?_
      rintro e w1 ⟨rfl, hx1⟩
      have X1 := hd ((Ext.new _ _).trans hx1)
      obtain ⟨k0, k1⟩ := blk2 (hx1.heap (heap_n1 w _))
      clear hx1
      go_wp2_with fail
      refine (rt (i_within _ _ _ _) HP).mono ?_
      rintro e w2 ⟨rfl, rfl⟩
      go_wp2
      go_ret
      exact RetX.mk rfl X1.out
    · have HE : Hid (askF f x = false) := hd (by unfold askF smlB; rw [decide_eq_false h6]; rfl)
      rw [HE.out]
      clear hq hp
      go_enter Tryz.func18, Tryz.ntmps18
      go_wp2_with fail
      refine HC.out.mono ?_
      rintro e w1 ⟨rfl, hx1⟩
      have X1 := hd ((Ext.new _ _).trans hx1)
      obtain ⟨k0, k1⟩ := blk2 (hx1.heap (heap_n1 w _))
      clear hx1
      go_wp2
      go_ret
      exact RetX.mk rfl X1.out
set_option maxHeartbeats 1600000 in
theorem i_clauseValue (c a : List Int) (v av : Value) (w : World) (h : RdI w v c) (h' : RdI w av a) (hl : c.length ≤ 1000000) (hl' : a.length ≤ 1000000) (hlit : Hid (∀ l ∈ c, -12 ≤ l ∧ l ≤ 12)) :
    Calls Tryz.prog 71 #[v, av] w (Ret w (.int .i64 (valG a (-1) c))) := by
  obtain ⟨A, cc, rfl, h1, h2, ha⟩ := h.form
  have HA := hd h'
  clear h h'
  go_enter Tryz.func71, Tryz.ntmps71
  go_wp2
  go_loop [10, 5] (fun i x => ∃ (k : Nat) (z : Int), k ≤ c.length ∧ i = .int .i64 k ∧ x = .int .i64 z ∧ Hid (valG a (-1) c = valG a z (c.drop k))) (fun i _ => c.length - (intOf i).toNat)
  case atStart => exact ⟨0, -1, by omega, rfl, rfl, hd rfl⟩
  case round =>
    obtain ⟨k, z, hk, rfl, rfl, HR⟩ := hrel
    by_cases hlt : k < c.length
    · obtain ⟨e1, rfl, hc⟩ := RdI.at_ ha hlt
      have hdc : c.drop k = c[k] :: c.drop (k + 1) := List.drop_eq_getElem_cons hlt
      rw [hdc] at HR
      have hy := hlit.out _ (List.getElem_mem hlt)
      clear hdc
      generalize c[k] = y at *
      obtain ⟨hy1, hy2⟩ := hy
      obtain ⟨p, hp⟩ : ∃ p, hasI a y = p := ⟨_, rfl⟩
      obtain ⟨q, hq⟩ : ∃ q, hasI a (-y) = q := ⟨_, rfl⟩
      have HP := hd hp
      have HQ := hd hq
      clear hp hq
      cases p
      · cases q
        · go_wp2_with fail
          refine (rt (slices_Contains a av y _ HA.out (by omega)) HP).mono ?_
          rintro e w1 ⟨rfl, rfl⟩
          go_wp2_with fail
          refine (rt (slices_Contains a av (-y) _ HA.out (by omega)) HQ).mono ?_
          rintro e w1 ⟨rfl, rfl⟩
          go_wp2
          go_round
          case rel => exact ⟨k + 1, 0, by omega, by go_num, rfl, hd (by rw [HR.out, valG, HP.out, HQ.out]; rfl)⟩
          case measure => simp [intOf]; omega
        · go_wp2_with fail
          refine (rt (slices_Contains a av y _ HA.out (by omega)) HP).mono ?_
          rintro e w1 ⟨rfl, rfl⟩
          go_wp2_with fail
          refine (rt (slices_Contains a av (-y) _ HA.out (by omega)) HQ).mono ?_
          rintro e w1 ⟨rfl, rfl⟩
          go_wp2
          go_round
          case rel => exact ⟨k + 1, z, by omega, by go_num, rfl, hd (by rw [HR.out, valG, HP.out, HQ.out]; rfl)⟩
          case measure => simp [intOf]; omega
      · go_wp2_with fail
        refine (rt (slices_Contains a av y _ HA.out (by omega)) HP).mono ?_
        rintro e w1 ⟨rfl, rfl⟩
        go_wp2
        go_ret
        exact Ret.mk (by rw [HR.out, valG, HP.out]; rfl)
    · go_wp2
      go_ret
      exact Ret.mk (by rw [HR.out, List.drop_eq_nil_of_le (by omega)]; rfl)
theorem pow3_le {k : Nat} (h : k ≤ 12) : 3 ^ k ≤ 531441 := by
  have := Nat.pow_le_pow_right (n := 3) (by decide) h
  simpa using this
set_option maxHeartbeats 800000 in
theorem i_power3 (n : Nat) (w : World) (hn : n ≤ 11) : Calls Tryz.prog 56 #[.int .i64 (n : Int)] w (Ret w (.int .i64 ((3 ^ n : Nat) : Int))) := by
  obtain ⟨Q, hQ⟩ : ∃ Q, 3 ^ n = Q := ⟨_, rfl⟩
  have HQ := hd hQ
  rw [hQ]
  clear hQ
  go_enter Tryz.func56, Tryz.ntmps56
  go_wp2
  go_loop [5, 3] (fun i x => ∃ (k P : Nat), k ≤ n ∧ i = .int .i64 (k : Int) ∧ x = .int .i64 (P : Int) ∧ Hid (P = 3 ^ k) ∧ P ≤ 531441) (fun i _ => n - (intOf i).toNat)
  case atStart => exact ⟨0, 1, by omega, rfl, rfl, hd rfl, by decide⟩
  case round =>
    obtain ⟨k, P, hk, rfl, rfl, HP, hP⟩ := hrel
    by_cases hlt : k < n
    · have hQ : P * 3 ≤ 531441 := by
        have h1 := pow3_le (show k + 1 ≤ 12 by omega)
        rw [Nat.pow_succ, ← HP.out] at h1
        exact h1
      go_wp2
      go_round
      case rel => exact ⟨k + 1, P * 3, by omega, by go_num, by go_num, hd (by rw [Nat.pow_succ, HP.out]), hQ⟩
      case measure => simp [intOf]; omega
    · obtain rfl : k = n := by omega
      go_wp2
      go_ret
      exact Ret.mk (by rw [show Q = P from by rw [HP.out, HQ.out]]; rfl)
theorem code_take (a : List Int) (k : Nat) : codeA (a.take k) ≤ codeA a := by
  conv => rhs; rw [← List.take_append_drop k a, codeA_append]
  omega
set_option maxHeartbeats 1600000 in
theorem i_codeOf (n : Nat) (a : List Int) (v : Value) (w : World) (h : RdI w v a) (hr : Ris (n : Int) a) (hn : n ≤ 6) : Calls Tryz.prog 35 #[v] w (Ret w (.int .i64 ((codeA a : Nat) : Int))) := by
  obtain ⟨A, c, rfl, h1, h2, ha⟩ := h.form
  have HT : Hid (∀ k (hk : k < a.length), codeA (a.take (k + 1)) = codeA (a.take k) + dgt a[k]) := hd fun k hk => by rw [List.take_succ_eq_append_getElem hk, codeA_append, codeA_one]
  have HB : Hid (∀ k, codeA (a.take k) ≤ 729) := hd fun k => by
    have h1 := code_lt n a hr
    have h2 := code_take a k
    have h3 := pow36 hn
    omega
  have HX : Hid (∀ x ∈ a, 1 ≤ absI x ∧ absI x ≤ 6) := hd fun x hx => by have := hr.2 x hx; omega
  have HL : Hid (codeA (a.take a.length) = codeA a) := hd (by rw [List.take_length])
  have hal : a.length ≤ 6 := by have := hr.len; omega
  clear h hr
  obtain ⟨Q, hQ⟩ : ∃ Q, codeA a = Q := ⟨_, rfl⟩
  rw [hQ] at HL ⊢
  clear hQ
  go_enter Tryz.func35, Tryz.ntmps35
  go_wp2
  go_loop [8, 3] (fun i x => ∃ (k C : Nat), k ≤ a.length ∧ i = .int .i64 (k : Int) ∧ x = .int .i64 (C : Int) ∧ Hid (C = codeA (a.take k)) ∧ C ≤ 729) (fun i _ => a.length - (intOf i).toNat)
  case atStart => exact ⟨0, 0, by omega, rfl, rfl, hd rfl, by decide⟩
  case round =>
    obtain ⟨k, C, hk, rfl, rfl, HC, hC⟩ := hrel
    by_cases hlt : k < a.length
    · obtain ⟨e1, rfl, hc⟩ := RdI.at_ ha hlt
      have hy := HX.out _ (List.getElem_mem hlt)
      have HT1 := hd (HT.out k hlt)
      have HB1 := HB.out (k + 1)
      rw [HT1.out, ← HC.out] at HB1
      generalize a[k] = y at *
      by_cases hp : 0 < y
      · have hab : absI y = y := absI_pos (by omega)
        rw [hab] at hy
        obtain ⟨m, hm⟩ : ∃ m : Nat, y - 1 = (m : Int) := ⟨(y - 1).toNat, by omega⟩
        have HP := hd (i_power3 m w (by omega))
        have hd1 : dgt y = 2 * 3 ^ m := by
          have e : (absI y).toNat - 1 = m := by omega
          unfold dgt
          rw [e, if_pos hp]
        rw [← hm] at HP
        rw [hd1] at HT1 HB1
        have hp' : y > 0 := hp
        clear hd1 hm hab
        generalize 3 ^ m = P at *
        go_wp2_with fail
        refine HP.out.mono ?_
        rintro e w1 ⟨rfl, rfl⟩
        go_wp2
        go_round
        case rel => exact ⟨k + 1, C + 2 * P, by omega, by go_num, by go_num, hd (by rw [HT1.out, HC.out]), HB1⟩
        case measure => simp [intOf]; omega
      · have hab : absI y = -y := by unfold absI at *; split at hy <;> rename_i hh <;> first | (rw [if_pos hh]) | omega
        rw [hab] at hy
        obtain ⟨m, hm⟩ : ∃ m : Nat, -y - 1 = (m : Int) := ⟨(-y - 1).toNat, by omega⟩
        have HP := hd (i_power3 m w (by omega))
        have hd1 : dgt y = 3 ^ m := by
          have e : (absI y).toNat - 1 = m := by omega
          unfold dgt
          rw [e, if_neg hp, Nat.one_mul]
        rw [← hm] at HP
        rw [hd1] at HT1 HB1
        have hp' : ¬ y > 0 := hp
        clear hd1 hm hab
        generalize 3 ^ m = P at *
        go_wp2_with fail
        refine HP.out.mono ?_
        rintro e w1 ⟨rfl, rfl⟩
        go_wp2
        go_round
        case rel => exact ⟨k + 1, C + P, by omega, by go_num, by go_num, hd (by rw [HT1.out, HC.out]), HB1⟩
        case measure => simp [intOf]; omega
    · obtain rfl : k = a.length := by omega
      go_wp2
      go_ret
      exact Ret.mk (by rw [show Q = C from by rw [← HL.out, HC.out]]; rfl)
def fopG (a : List Int) : List Int → Int
  | [] => 0
  | l :: r => if opnB a l then l else fopG a r
set_option maxHeartbeats 1600000 in
theorem i_firstOpen (c a : List Int) (v av : Value) (w : World) (h : RdI w v c) (h' : RdI w av a) (hl : c.length ≤ 1000000) (hl' : a.length ≤ 1000000) (hlit : Hid (∀ l ∈ c, -12 ≤ l ∧ l ≤ 12)) :
    Calls Tryz.prog 82 #[v, av] w (Ret w (.int .i64 (fopG a c))) := by
  obtain ⟨A, cc, rfl, h1, h2, ha⟩ := h.form
  have HA := hd h'
  clear h h'
  go_enter Tryz.func82, Tryz.ntmps82
  go_wp2
  go_loop [9] (fun i => ∃ (k : Nat), k ≤ c.length ∧ i = .int .i64 k ∧ Hid (fopG a c = fopG a (c.drop k))) (fun i => c.length - (intOf i).toNat)
  case atStart => exact ⟨0, by omega, rfl, hd rfl⟩
  case round =>
    obtain ⟨k, hk, rfl, HR⟩ := hrel
    by_cases hlt : k < c.length
    · obtain ⟨e1, rfl, hc⟩ := RdI.at_ ha hlt
      have hdc : c.drop k = c[k] :: c.drop (k + 1) := List.drop_eq_getElem_cons hlt
      rw [hdc] at HR
      have hy := hlit.out _ (List.getElem_mem hlt)
      clear hdc
      generalize c[k] = y at *
      obtain ⟨hy1, hy2⟩ := hy
      obtain ⟨p, hp⟩ : ∃ p, hasI a y = p := ⟨_, rfl⟩
      obtain ⟨q, hq⟩ : ∃ q, hasI a (-y) = q := ⟨_, rfl⟩
      have HP := hd hp
      have HQ := hd hq
      have HO : Hid (opnB a y = (!p && !q)) := hd (by unfold opnB; rw [hp, hq])
      clear hp hq
      cases p
      · cases q
        · go_wp2_with fail
          refine (rt (slices_Contains a av y _ HA.out (by omega)) HP).mono ?_
          rintro e w1 ⟨rfl, rfl⟩
          go_wp2_with fail
          refine (rt (slices_Contains a av (-y) _ HA.out (by omega)) HQ).mono ?_
          rintro e w1 ⟨rfl, rfl⟩
          go_wp2
          go_ret
          exact Ret.mk (by rw [HR.out, fopG, HO.out]; rfl)
        · go_wp2_with fail
          refine (rt (slices_Contains a av y _ HA.out (by omega)) HP).mono ?_
          rintro e w1 ⟨rfl, rfl⟩
          go_wp2_with fail
          refine (rt (slices_Contains a av (-y) _ HA.out (by omega)) HQ).mono ?_
          rintro e w1 ⟨rfl, rfl⟩
          go_wp2
          go_round
          case rel => exact ⟨k + 1, by omega, by go_num, hd (by rw [HR.out, fopG, HO.out]; rfl)⟩
          case measure => simp [intOf]; omega
      · go_wp2_with fail
        refine (rt (slices_Contains a av y _ HA.out (by omega)) HP).mono ?_
        rintro e w1 ⟨rfl, rfl⟩
        go_wp2
        go_round
        case rel => exact ⟨k + 1, by omega, by go_num, hd (by rw [HR.out, fopG, HO.out]; rfl)⟩
        case measure => simp [intOf]; omega
    · go_wp2
      go_ret
      exact Ret.mk (by rw [HR.out, List.drop_eq_nil_of_le (by omega)]; rfl)
end Go.Proofs.YtbdcomkbpapcaaaGreat
