/-
  Pebbling, the reference's small words. Condition: at most ten nodes, positions below 1024.
-/
import Derived.Test.YtapgpjhogdmjbaaPebQ
import Derived.Test.YtapgpjhogdmjbaaDagK
import Derived.Test.YtapgpjhogdmjbaaNum
import Derived.Test.YtapgpjhogdmjbaaC1
import Derived.Test.YtapgpjhogdmjbaaApp2
import Derived.IntWalk
namespace Go.Proofs.Ytapgpjhogdmjbaa
open Go.RowKit Peb
def goodDG : Int → List (List Int) → Bool
  | _, [] => true
  | x, p :: r => if risingB 0 (x - 1) p then goodDG (x + 1) r else false
/-- A valid graph: 1 to 10 nodes, ascending forerunners that are smaller than their node. -/
def goodD (ds : List (List Int)) : Bool := inB ds.length 1 10 && goodDG 0 ds
theorem risingG_bd {lo hi : Int} : ∀ (xs : List Int) (o : Option Int), risingG lo hi o xs = true → ∀ x ∈ xs, lo ≤ x ∧ x ≤ hi
  | [], _, _, x, hx => by cases hx
  | y :: r, o, h, x, hx => by
    cases o with
    | none =>
      unfold risingG at h
      split at h
      · rename_i hb
        rcases List.mem_cons.1 hx with rfl | hx
        · exact inB_iff.1 hb
        · exact risingG_bd r _ h x hx
      · cases h
    | some p =>
      unfold risingG at h
      split at h
      · rename_i hb
        split at h
        · rcases List.mem_cons.1 hx with rfl | hx
          · exact inB_iff.1 hb
          · exact risingG_bd r _ h x hx
        · cases h
      · cases h
theorem goodDG_get : ∀ (ds : List (List Int)) (x : Int), goodDG x ds = true → ∀ i (h : i < ds.length), ∀ p ∈ ds[i], 0 ≤ p ∧ p ≤ x + i - 1
  | [], _, _, i, h, _, _ => absurd h (Nat.not_lt_zero _)
  | d :: r, x, hg, i, h, p, hp => by
    unfold goodDG at hg
    split at hg
    · rename_i hb
      cases i with
      | zero =>
        have := risingG_bd d none hb p hp
        omega
      | succ i =>
        have := goodDG_get r (x + 1) hg i (by simpa using h) p hp
        omega
    · cases hg
theorem goodD_dag {ds : List (List Int)} (h : goodD ds = true) : 1 ≤ ds.length ∧ ds.length ≤ 10 ∧ Dag ds := by
  unfold goodD at h
  rw [Bool.and_eq_true, inB_iff] at h
  refine ⟨by omega, by omega, fun x hx p hp => ?_⟩
  rw [List.getD_eq_getElem?_getD, List.getElem?_eq_getElem hx, Option.getD_some] at hp
  have := goodDG_get ds 0 h.2 x hx p hp
  omega
theorem Rd_Dag.at {w : World} {vc : Value} {ds : List (List Int)} (h : Rd_Dag w (.agg #[vc]) ds) : RdSS w vc ds := by
  obtain ⟨v, e, h⟩ := h
  injection e with e
  have : vc = v := by simpa using e
  rw [this]; exact h
set_option maxHeartbeats 1600000 in
theorem s_l14Good (ds : List (List Int)) (v : Value) (w : World) (h : Rd_Dag w v ds) (b : Bd_Dag ds) :
    Calls Try.prog 23 #[v] w (RetX w (.bool (goodD ds))) := by
  obtain ⟨vc, rfl, hC⟩ := h
  obtain ⟨A, c, rfl, h1, h2, ha⟩ := hC.form
  have hl := b.1
  have HLE := b.hid
  clear hC b
  obtain ⟨q, hq⟩ : ∃ q, inB ds.length 1 10 = q := ⟨_, rfl⟩
  have HQ := hd hq
  clear hq
  cases q
  · have HE : Hid (goodD ds = false) := hd (by unfold goodD; rw [HQ.out]; rfl)
    rw [HE.out]
    go_enter Try.func23, Try.ntmps23
    go_wp2_with fail
    refine (rt (s_l1In _ _ _ _) HQ).mono ?_
    rintro e w1 ⟨rfl, rfl⟩
    go_wp2
    go_ret
    exact RetX.mk rfl (Ext.new _ _)
  · have HE : Hid (goodD ds = goodDG 0 ds) := hd (by unfold goodD; rw [HQ.out]; rfl)
    rw [HE.out]
    have hl10 : ds.length ≤ 10 := by have := inB_iff.1 HQ.out; omega
    go_enter Try.func23, Try.ntmps23
    go_wp2_with fail
    refine (rt (s_l1In _ _ _ _) HQ).mono ?_
    rintro e w1 ⟨rfl, rfl⟩
    go_wp2
    go_loopw [3] (fun i wr => ∃ k : Nat, k ≤ ds.length ∧ i = .int .i64 k ∧ Hid (goodDG 0 ds = goodDG (k : Int) (ds.drop k)) ∧ Ext (w.alloc (.cells #[.slice A ds.length c] 28)) wr) (fun i _ => ds.length - (intOf i).toNat)
    case atStart => exact ⟨0, by omega, rfl, hd rfl, Ext.refl _⟩
    case round =>
      obtain ⟨k, hk, rfl, HR, hx⟩ := hrel
      have c0 := cell_ofD (hx.heap (heap_n1 w _))
      have HX := hd hx
      have HX0 := hd ((Ext.new w (.cells #[.slice A ds.length c] 28)).trans hx)
      clear hx
      by_cases hlt : k < ds.length
      · obtain ⟨a, u, rfl, hc0, hr0⟩ := RdSS.at_ ha hlt
        have hc := HX0.out.cell hc0
        have HRD := hd (hr0.ext HX0.out)
        have hdc : ds.drop k = ds[k] :: ds.drop (k + 1) := List.drop_eq_getElem_cons hlt
        rw [hdc] at HR
        have HXL := hd (HLE.out _ (List.getElem_mem hlt))
        clear hc0 hr0 hdc
        generalize ds[k] = y at *
        obtain ⟨A3, c3, rfl, -⟩ := HRD.out.form
        obtain ⟨q, hq⟩ : ∃ q, risingB 0 ((k : Int) - 1) y = q := ⟨_, rfl⟩
        have HC := hd (rtq (s_l1Rising y _ 0 ((k : Int) - 1) wr HRD.out HXL.out) (hd hq))
        cases q
        · have HE2 : Hid (goodDG 0 ds = false) := hd (by rw [HR.out, goodDG, hq]; rfl)
          clear hq
          go_wp2_with fail
          refine HC.out.mono ?_
          rintro e w1 ⟨rfl, n1, rfl⟩
          go_wp2
          go_ret
          exact RetX.mk (by rw [HE2.out]; rfl) (HX0.out.drewN n1)
        · have HE2 : Hid (goodDG 0 ds = goodDG ((k + 1 : Nat) : Int) (ds.drop (k + 1))) := hd (by rw [HR.out, goodDG, hq]; rfl)
          clear hq
          go_wp2_with fail
          refine HC.out.mono ?_
          rintro e w1 ⟨rfl, n1, rfl⟩
          go_wp2
          go_roundw
          case rel => exact ⟨k + 1, by omega, by go_num, HE2, HX.out.drewN n1⟩
          case measure => simp [intOf]; omega
      · have HE2 : Hid (goodDG 0 ds = true) := hd (by rw [HR.out, List.drop_eq_nil_of_le (by omega)]; rfl)
        go_wp2
        go_ret
        exact RetX.mk (by rw [HE2.out]; rfl) HX0.out
theorem bitN_test (P m : Nat) : (bitN P m == 0) = !P.testBit m := by
  unfold bitN
  rw [Nat.testBit_eq_decide_div_mod_eq]
  have := Nat.mod_lt (P / 2 ^ m) (show 0 < 2 by decide)
  by_cases h : P / 2 ^ m % 2 = 1
  · rw [h]; rfl
  · have h0 : P / 2 ^ m % 2 = 0 := by omega
    rw [h0]; rfl
set_option maxHeartbeats 1600000 in
theorem s_l14Fed (ds : List (List Int)) (P x : Nat) (v : Value) (w : World) (h : Rd_Dag w v ds) (hx : x < ds.length) (_hl : ds.length ≤ 10) (hp : Hid (∀ p ∈ ds.getD x [], 0 ≤ p ∧ p ≤ 9)) (hpl : (ds.getD x []).length ≤ 1048576) (hP : P < 1024) :
    Calls Try.prog 45 #[v, .int .i64 (P : Int), .int .i64 (x : Int)] w (RetX w (.bool (fedB ds P x))) := by
  obtain ⟨vc, rfl, hC⟩ := h
  obtain ⟨A, c, rfl, h1, h2, ha⟩ := hC.form
  obtain ⟨a, u, rfl, hc0, hr0⟩ := RdSS.at_ ha hx
  have hge : ds.getD x [] = ds[x] := by rw [List.getD_eq_getElem?_getD, List.getElem?_eq_getElem hx]; rfl
  have HE : Hid (fedB ds P x = (ds[x]).all fun p => P.testBit p.toNat) := hd (by unfold fedB; rw [hge])
  rw [HE.out]
  rw [hge] at hp hpl
  have hc1 := (Ext.new w (.cells #[.slice (some a) ds.length c] 28)).cell hc0
  have HRD := hd (hr0.ext (Ext.new w (.cells #[.slice (some a) ds.length c] 28)))
  clear hC hge HE hc0 hr0
  generalize ds[x] = y at *
  obtain ⟨A3, c3, rfl, h3, h4, hy⟩ := HRD.out.form
  have e1 : (0 : Int) ≤ (x : Int) := by omega
  have e2 : (x : Int) < (ds.length : Int) := by omega
  go_enter Try.func45, Try.ntmps45
  go_wp2
  go_loop [7] (fun i => ∃ k : Nat, k ≤ y.length ∧ i = .int .i64 k ∧ Hid ((y.all fun p => P.testBit p.toNat) = (y.drop k).all fun p => P.testBit p.toNat)) (fun i => y.length - (intOf i).toNat)
  case atStart => exact ⟨0, by omega, rfl, hd rfl⟩
  case round =>
    obtain ⟨k, hk, rfl, HR⟩ := hrel
    by_cases hlt : k < y.length
    · obtain ⟨a5, rfl, hc5⟩ := RdI.at_ hy hlt
      have hdc : y.drop k = y[k] :: y.drop (k + 1) := List.drop_eq_getElem_cons hlt
      rw [hdc] at HR
      have hb5 := hp.out _ (List.getElem_mem hlt)
      clear hdc
      generalize y[k] = p at *
      obtain ⟨m, rfl⟩ : ∃ m : Nat, p = (m : Int) := ⟨p.toNat, by omega⟩
      have hsh := shr_and (b := P) (k := m) (by omega)
      have hm0 : (0 : Int) ≤ (m : Int) := by omega
      have hm9 : m ≤ 9 := by omega
      have HBT := hd (bitN_test P m)
      rw [List.all_cons, show ((m : Int)).toNat = m by omega] at HR
      have hbl := bitN_lt P m
      generalize bitN P m = t at *
      obtain ⟨q, hq⟩ : ∃ q, P.testBit m = q := ⟨_, rfl⟩
      rw [hq] at HR HBT
      clear hq
      cases q
      · have ht : t = 0 := by have := HBT.out; simpa using this
        subst ht
        have HE2 : Hid ((y.all fun p => P.testBit p.toNat) = false) := hd (by rw [HR.out]; rfl)
        clear hbl
        go_wp2
        go_ret
        exact RetX.mk (by rw [HE2.out]; rfl) (Ext.new _ _)
      · have ht : t = 1 := by
          have h0 := HBT.out
          have : ¬ t = 0 := fun e => by rw [e] at h0; cases h0
          omega
        subst ht
        have HE2 : Hid ((y.all fun p => P.testBit p.toNat) = (y.drop (k + 1)).all fun p => P.testBit p.toNat) := hd (by rw [HR.out, Bool.true_and])
        clear hbl
        go_wp2
        go_round
        case rel => exact ⟨k + 1, by omega, by go_num, HE2⟩
        case measure => simp [intOf]; omega
    · have HE2 : Hid ((y.all fun p => P.testBit p.toNat) = true) := hd (by rw [HR.out, List.drop_eq_nil_of_le (by omega)]; rfl)
      go_wp2
      go_ret
      exact RetX.mk (by rw [HE2.out]; rfl) (Ext.new _ _)
set_option maxHeartbeats 800000 in
theorem s_l14Count (P : Nat) (w : World) (hP : P < 1024) : Calls Try.prog 40 #[.int .i64 (P : Int)] w (Ret w (.int .i64 ((cnt P : Nat) : Int))) := by
  obtain ⟨C, hC⟩ : ∃ C, cnt P = C := ⟨_, rfl⟩
  have HC : Hid (C = 0 + cntF 10 P) := hd (by rw [← hC, Nat.zero_add]; rfl)
  rw [hC]
  clear hC
  go_enter Try.func40, Try.ntmps40
  go_wp2
  go_loop [0, 3] (fun p x => ∃ (f P c : Nat), P < 2 ^ f ∧ f ≤ 10 ∧ p = .int .i64 (P : Int) ∧ x = .int .i64 (c : Int) ∧ Hid (C = c + cntF f P) ∧ c + f ≤ 10) (fun p _ => (intOf p).toNat)
  case atStart => exact ⟨10, P, 0, hP, Nat.le_refl _, rfl, rfl, HC, by omega⟩
  case round =>
    obtain ⟨f, R, c, hR, hf, rfl, rfl, HR, hcf⟩ := hrel
    have hR10 : R < 1024 := Nat.lt_of_lt_of_le hR (by have := Nat.pow_le_pow_right (n := 2) (by decide) hf; simpa using this)
    by_cases h0 : R = 0
    · subst h0
      have hz : ∀ f, cntF f 0 = 0 := fun f => by
        induction f with
        | zero => rfl
        | succ f ih => unfold cntF; simpa using ih
      have HE : Hid (C = c) := hd (by rw [HR.out, hz, Nat.add_zero])
      clear hz
      go_wp2
      go_ret
      exact Ret.mk (by rw [HE.out]; rfl)
    · obtain ⟨f', rfl⟩ : ∃ f', f = f' + 1 := ⟨f - 1, by cases f with | zero => simp at hR; omega | succ f => omega⟩
      have hpos : (R : Int) > 0 := by omega
      have HE : Hid (C = (c + R % 2) + cntF f' (R / 2)) := hd (by rw [HR.out, cntF]; omega)
      have hR2 : R / 2 < 2 ^ f' := by rw [Nat.pow_succ] at hR; omega
      have hm2 : R % 2 < 2 := Nat.mod_lt _ (by decide)
      go_wp2
      go_round
      case rel => exact ⟨f', R / 2, c + R % 2, hR2, by omega, by simp, by simp, HE, by omega⟩
      case measure => simp [intOf]; omega
theorem s_l14Target (ds : List (List Int)) (v : Value) (w : World) (h : Rd_Dag w v ds) (h1 : 1 ≤ ds.length) (hl : ds.length ≤ 10) : Calls Try.prog 49 #[v] w (RetX w (.int .i64 ((2 ^ (ds.length - 1) : Nat) : Int))) := by
  obtain ⟨vc, rfl, hC⟩ := h
  obtain ⟨A, c, rfl, -, -, -⟩ := hC.form
  clear hC
  generalize ds.length = L at *
  obtain ⟨m, rfl⟩ : ∃ m, L = m + 1 := ⟨L - 1, by omega⟩
  have hpm := wrap_pow (m := m) (by omega)
  have hm0 : (0 : Int) ≤ (m : Int) := by omega
  have hpm2 : 2 ^ m ≤ 512 := by have := Nat.pow_le_pow_right (n := 2) (by decide) (show m ≤ 9 by omega); simpa using this
  rw [show m + 1 - 1 = m by omega]
  obtain ⟨T, hT⟩ : ∃ T, 2 ^ m = T := ⟨_, rfl⟩
  rw [hT] at hpm hpm2 ⊢
  clear hT
  go_enter Try.func49, Try.ntmps49
  go_wp2
  go_ret
  exact RetX.mk (by show Value.int .i64 (wrap64 (2 ^ m)) = _; rw [hpm]) (Ext.new _ _)
theorem and_bit (P m : Nat) : P &&& 2 ^ m = if P.testBit m then 2 ^ m else 0 := by
  apply Nat.eq_of_testBit_eq
  intro y
  rw [Nat.testBit_and, Nat.testBit_two_pow]
  by_cases e : m = y
  · subst e
    rw [decide_eq_true rfl, Bool.and_true]
    cases h : P.testBit m
    · rw [if_neg (by decide)]; simp
    · rw [if_pos rfl, Nat.testBit_two_pow, decide_eq_true rfl]
  · rw [decide_eq_false e, Bool.and_false]
    cases h : P.testBit m
    · rw [if_neg (by decide)]; simp
    · rw [if_pos rfl, Nat.testBit_two_pow, decide_eq_false e]
set_option maxHeartbeats 800000 in
theorem s_l14Done (ds : List (List Int)) (P : Nat) (rev : Bool) (v : Value) (w : World) (h : Rd_Dag w v ds) (h1 : 1 ≤ ds.length) (hl : ds.length ≤ 10) (hP : P < 1024) :
    Calls Try.prog 39 #[v, .int .i64 (P : Int), .bool rev] w (RetX w (.bool (goalB ds.length rev P))) := by
  have HV := hd h
  obtain ⟨vc, rfl, hC⟩ := h
  obtain ⟨A, c, rfl, -, -, -⟩ := hC.form
  have HT := hd (s_l14Target ds _ (w.alloc (.cells #[.slice A ds.length c] 28)) (HV.out.ext (Ext.new _ _)) h1 hl)
  clear hC HV
  have hpm2 : 2 ^ (ds.length - 1) ≤ 512 := by have := Nat.pow_le_pow_right (n := 2) (by decide) (show ds.length - 1 ≤ 9 by omega); simpa using this
  have hpp : 0 < 2 ^ (ds.length - 1) := Nat.pow_pos (by decide)
  have hab := and_bit P (ds.length - 1)
  have HG : Hid (goalB ds.length rev P = if rev then decide (P = 2 ^ (ds.length - 1)) else P.testBit (ds.length - 1)) := hd rfl
  rw [HG.out]
  clear HG
  have ha64 := and64 P (2 ^ (ds.length - 1)) (by omega) (by omega)
  rw [hab] at ha64
  obtain ⟨b, hb⟩ : ∃ b, P.testBit (ds.length - 1) = b := ⟨_, rfl⟩
  rw [hb] at ha64 ⊢
  clear hab hb
  generalize 2 ^ (ds.length - 1) = T at *
  cases rev
  · rw [if_neg (by decide)]
    cases b
    · rw [if_neg (by decide)] at ha64
      go_enter Try.func39, Try.ntmps39
      go_wp2_with fail
      refine HT.out.mono ?_
      rintro e w1 ⟨rfl, hx1⟩
      have X1 := hd ((Ext.new _ _).trans hx1)
      clear hx1
      go_wp2
      go_ret
      exact RetX.mk (by simp [ha64]) X1.out
    · rw [if_pos rfl] at ha64
      have hT0 : ¬ (T : Int) = 0 := by omega
      go_enter Try.func39, Try.ntmps39
      go_wp2_with fail
      refine HT.out.mono ?_
      rintro e w1 ⟨rfl, hx1⟩
      have X1 := hd ((Ext.new _ _).trans hx1)
      clear hx1
      go_wp2
      go_ret
      exact RetX.mk (by simp [ha64]; omega) X1.out
  · rw [if_pos rfl]
    go_enter Try.func39, Try.ntmps39
    go_wp2_with fail
    refine HT.out.mono ?_
    rintro e w1 ⟨rfl, hx1⟩
    have X1 := hd ((Ext.new _ _).trans hx1)
    clear hx1
    go_wp2
    go_ret
    refine RetX.mk ?_ X1.out
    by_cases e : P = T
    · subst e; simp
    · have e2 : ¬ ((P : Int) = (T : Int)) := by omega
      simp [e, e2]
def mvZ (ds : List (List Int)) (rev : Bool) (P : Nat) (kd : Int) (x : Nat) : Int :=
  if kd = 1 then (if P.testBit x then -1 else if fedB ds P x then ((P ^^^ 2 ^ x : Nat) : Int) else -1)
  else (if P.testBit x then (if rev then (if fedB ds P x then ((P ^^^ 2 ^ x : Nat) : Int) else -1) else ((P ^^^ 2 ^ x : Nat) : Int)) else -1)
theorem or_flip {P x : Nat} (h : P.testBit x = false) : P ||| 2 ^ x = P ^^^ 2 ^ x := by
  apply Nat.eq_of_testBit_eq
  intro y
  rw [Nat.testBit_or, flip_bit, Nat.testBit_two_pow]
  by_cases e : x = y
  · subst e; rw [h]; simp
  · rw [decide_eq_false e]; simp
theorem sub_all : ∀ P : Fin 1024, ∀ x : Fin 10, P.1.testBit x.1 = true → P.1 - 2 ^ x.1 = P.1 ^^^ 2 ^ x.1 ∧ 2 ^ x.1 ≤ P.1 := by decide +kernel
set_option maxRecDepth 100000 in
set_option maxHeartbeats 1600000 in
theorem s_l14Move (ds : List (List Int)) (P x : Nat) (kd : Int) (rev : Bool) (v : Value) (w : World) (h : Rd_Dag w v ds) (hx : x < ds.length) (hl : ds.length ≤ 10) (hp : Hid (∀ p ∈ ds.getD x [], 0 ≤ p ∧ p ≤ 9)) (hpl : (ds.getD x []).length ≤ 1048576) (hP : P < 1024) (hk : kd = 1 ∨ kd = 2) :
    Calls Try.prog 33 #[v, .int .i64 (P : Int), .agg #[.int .i64 kd, .int .i64 (x : Int)], .bool rev] w (RetX w (.int .i64 (mvZ ds rev P kd x))) := by
  have HV := hd h
  obtain ⟨vc, rfl, hC⟩ := h
  obtain ⟨A, c, rfl, -, -, -⟩ := hC.form
  have HF := hd (fun w' hx' => s_l14Fed ds P x _ w' (HV.out.ext hx') hx hl hp hpl hP : ∀ w', Ext w w' → _)
  have X2 := hd ((Ext.new w (.cells #[.slice A ds.length c] 28)).alloc (.cells #[.int .i64 kd, .int .i64 (x : Int)] 52))
  have hin : inB (x : Int) 0 ((ds.length : Int) - 1) = true := inB_iff.2 (by omega)
  have HIN := hd hin
  have hw := wrap_pow (m := x) (by omega)
  have hor := or_pow (b := P) (m := x) (by omega) (by omega)
  have hp2 : 2 ^ x ≤ 512 := by have := Nat.pow_le_pow_right (n := 2) (by decide) (show x ≤ 9 by omega); simpa using this
  have hpp : 0 < 2 ^ x := Nat.pow_pos (by decide)
  have han := and64 P (2 ^ x) (by omega) (by omega)
  rw [← hw, and_bit] at han
  have hsub := sub_all ⟨P, hP⟩ ⟨x, by omega⟩
  have hflip : P ^^^ 2 ^ x < 1024 := Nat.xor_lt_two_pow (n := 10) hP (Nat.pow_lt_pow_right (by decide) (by omega))
  simp only at hsub
  have hx0 : (0 : Int) ≤ (x : Int) := by omega
  clear hC hin
  obtain ⟨fd, hfd⟩ : ∃ q, fedB ds P x = q := ⟨_, rfl⟩
  rw [hfd] at HF
  obtain ⟨b, hb⟩ : ∃ q, P.testBit x = q := ⟨_, rfl⟩
  have hmv : mvZ ds rev P kd x = if kd = 1 then (if b then -1 else if fd then ((P ^^^ 2 ^ x : Nat) : Int) else -1) else (if b then (if rev then (if fd then ((P ^^^ 2 ^ x : Nat) : Int) else -1) else ((P ^^^ 2 ^ x : Nat) : Int)) else -1) := by unfold mvZ; rw [hb, hfd]
  rw [hmv]
  rw [hb] at han hsub
  have hof : b = false → P ||| 2 ^ x = P ^^^ 2 ^ x := fun e => or_flip (by rw [hb, e])
  clear hmv hb hfd
  generalize P ^^^ 2 ^ x = F at *
  generalize hT : 2 ^ x = T at *
  clear hT
  rw [hw] at hor han
  rcases hk with rfl | rfl
  · rw [if_pos rfl]
    cases b
    · have ha0 : bits .and .i64 (P : Int) (T : Int) = 0 := by rw [han]; rfl
      rw [if_neg (by decide)]
      rw [hof rfl] at hor
      clear hof hsub
      cases fd
      all_goals
        go_enter Try.func33, Try.ntmps33
        go_wp2_with fail
        refine (rt (s_l1In _ _ _ _) HIN).mono ?_
        rintro e w1 ⟨rfl, rfl⟩
        go_wp2_with fail
        refine (HF.out _ X2.out).mono ?_
        rintro e w1 ⟨rfl, hx1⟩
        have X1 := hd (X2.out.trans hx1)
        clear hx1
        go_wp2
        go_ret
        exact RetX.mk (by simp [hw, hor]) X1.out
    · have ha0 : bits .and .i64 (P : Int) (T : Int) = (T : Int) := by rw [han]; rfl
      have hT0 : ¬ (T : Int) = 0 := by omega
      rw [if_pos rfl]
      clear hof hsub
      go_enter Try.func33, Try.ntmps33
      go_wp2_with fail
      refine (rt (s_l1In _ _ _ _) HIN).mono ?_
      rintro e w1 ⟨rfl, rfl⟩
      go_wp2
      go_ret
      exact RetX.mk (by simp) X2.out
  · rw [if_neg (by decide)]
    cases b
    · have ha0 : bits .and .i64 (P : Int) (T : Int) = 0 := by rw [han]; rfl
      rw [if_neg (by decide)]
      clear hof hsub
      go_enter Try.func33, Try.ntmps33
      go_wp2_with fail
      refine (rt (s_l1In _ _ _ _) HIN).mono ?_
      rintro e w1 ⟨rfl, rfl⟩
      go_wp2
      go_ret
      exact RetX.mk (by simp) X2.out
    · have ha0 : bits .and .i64 (P : Int) (T : Int) = (T : Int) := by rw [han]; rfl
      have hT0 : ¬ (T : Int) = 0 := by omega
      obtain ⟨hs1, hs2⟩ := hsub rfl
      have hsw : IntKind.i64.wrap ((P : Int) - (T : Int)) = (F : Int) := by rw [IntWalk.i64_in _ (by omega)]; omega
      have hsw2 : wrap64 ((P : Int) - (T : Int)) = (F : Int) := by unfold wrap64; omega
      rw [if_pos rfl]
      clear hof hs1
      cases rev
      · rw [if_neg (by decide)]
        go_enter Try.func33, Try.ntmps33
        go_wp2_with fail
        refine (rt (s_l1In _ _ _ _) HIN).mono ?_
        rintro e w1 ⟨rfl, rfl⟩
        go_wp2
        go_ret
        exact RetX.mk (by simp [hw, hsw2]) X2.out
      · rw [if_pos rfl]
        cases fd
        all_goals
          go_enter Try.func33, Try.ntmps33
          go_wp2_with fail
          refine (rt (s_l1In _ _ _ _) HIN).mono ?_
          rintro e w1 ⟨rfl, rfl⟩
          go_wp2_with fail
          refine (HF.out _ X2.out).mono ?_
          rintro e w1 ⟨rfl, hx1⟩
          have X1 := hd (X2.out.trans hx1)
          clear hx1
          go_wp2
          go_ret
          exact RetX.mk (by simp [hw, hsw2]) X1.out
end Go.Proofs.Ytapgpjhogdmjbaa
