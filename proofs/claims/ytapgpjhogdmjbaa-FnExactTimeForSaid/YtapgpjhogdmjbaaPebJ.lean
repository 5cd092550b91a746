/-
  Pebbling, the program's goal and moves. Condition: a valid graph, positions below 1024.
-/
import Derived.Test.YtapgpjhogdmjbaaPebI
namespace Go.Proofs.Ytapgpjhogdmjbaa
open Go.RowKit Peb
set_option maxHeartbeats 1600000 in
theorem i_goal (ds : List (List Int)) (P : Nat) (rev : Bool) (v : Value) (w : World) (h : Rd_Dag w v ds) (h1 : 1 ≤ ds.length) (hl : ds.length ≤ 10) (hP : P < 1024) :
    Calls Try.prog 43 #[v, .int .u64 (P : Int), .bool rev] w (RetX w (.bool (goalB ds.length rev P))) := by
  obtain ⟨vc, rfl, hC⟩ := h
  obtain ⟨A, c, rfl, -, -, -⟩ := hC.form
  clear hC
  have HG : Hid (goalB ds.length rev P = if rev then decide (P = 2 ^ (ds.length - 1)) else P.testBit (ds.length - 1)) := hd rfl
  rw [HG.out]
  clear HG
  generalize ds.length = L at *
  obtain ⟨m, rfl⟩ : ∃ m, L = m + 1 := ⟨L - 1, by omega⟩
  have hpm := u64pow (m := m) (by omega)
  have hm0 : (0 : Int) ≤ (m : Int) := by omega
  have hpm2 : 2 ^ m ≤ 512 := by have := Nat.pow_le_pow_right (n := 2) (by decide) (show m ≤ 9 by omega); simpa using this
  have hpp : 0 < 2 ^ m := Nat.pow_pos (by decide)
  have hab := and_bit P m
  have ha64 := andU P (2 ^ m) (by omega) (by omega)
  rw [hab] at ha64
  rw [show m + 1 - 1 = m by omega]
  obtain ⟨b, hb⟩ : ∃ b, P.testBit m = b := ⟨_, rfl⟩
  rw [hb] at ha64 ⊢
  clear hab hb
  obtain ⟨T, hT⟩ : ∃ T, 2 ^ m = T := ⟨_, rfl⟩
  rw [hT] at hpm hpm2 hpp ha64 ⊢
  clear hT
  cases rev
  · rw [if_neg (by decide)]
    cases b
    · rw [if_neg (by decide)] at ha64
      go_enter Try.func43, Try.ntmps43
      go_wp2
      go_ret
      exact RetX.mk (by simp [hpm, ha64]) (Ext.new _ _)
    · rw [if_pos rfl] at ha64
      have hT0 : ¬ (T : Int) = 0 := by omega
      go_enter Try.func43, Try.ntmps43
      go_wp2
      go_ret
      exact RetX.mk (by simp [hpm, ha64]; omega) (Ext.new _ _)
  · rw [if_pos rfl]
    go_enter Try.func43, Try.ntmps43
    go_wp2
    go_ret
    refine RetX.mk ?_ (Ext.new _ _)
    by_cases e : P = T
    · subst e; simp [hpm]
    · have e2 : ¬ ((P : Int) = (T : Int)) := by omega
      simp [e, e2, hpm]
def mvB (ds : List (List Int)) (rev : Bool) (P : Nat) (kd : Int) (x : Nat) : Bool :=
  if kd = 1 then (!P.testBit x && fedB ds P x) else (P.testBit x && (fedB ds P x || !rev))
theorem mvZ_B (ds : List (List Int)) (rev : Bool) (P : Nat) (kd : Int) (x : Nat) : mvZ ds rev P kd x = if mvB ds rev P kd x then ((P ^^^ 2 ^ x : Nat) : Int) else -1 := by
  unfold mvZ mvB
  by_cases h : kd = 1
  · rw [if_pos h, if_pos h]
    cases P.testBit x <;> cases fedB ds P x <;> rfl
  · rw [if_neg h, if_neg h]
    cases P.testBit x <;> cases fedB ds P x <;> cases rev <;> rfl
theorem xor_clear {P x : Nat} (h : P.testBit x = true) : P ^^^ (P &&& 2 ^ x) = P ^^^ 2 ^ x := by rw [and_bit, h, if_pos rfl]
def RetMv (w : World) (ok : Bool) (P Q : Nat) : Ending → World → Prop := RetX w (.tuple #[.int .u64 ((bif ok then Q else P : Nat) : Int), .bool ok])
set_option maxRecDepth 100000 in
set_option maxHeartbeats 3200000 in
theorem i_moved (ds : List (List Int)) (P x : Nat) (kd : Int) (rev : Bool) (v : Value) (w : World) (h : Rd_Dag w v ds) (hx : x < ds.length) (hl : ds.length ≤ 10) (hp : Hid (∀ p ∈ ds.getD x [], 0 ≤ p ∧ p ≤ 9)) (hpl : (ds.getD x []).length ≤ 1048576) (hP : P < 1024) (hk : kd = 1 ∨ kd = 2) :
    Calls Try.prog 47 #[v, .int .u64 (P : Int), .agg #[.int .i64 kd, .int .i64 (x : Int)], .bool rev] w (RetMv w (mvB ds rev P kd x) P (P ^^^ 2 ^ x)) := by
  obtain ⟨vc, rfl, hC⟩ := h
  obtain ⟨A, c, rfl, h1, h2, ha⟩ := hC.form
  obtain ⟨a, u, rfl, hc0, hr0⟩ := RdSS.at_ ha hx
  obtain ⟨Au, cu, rfl, -, -, -⟩ := hr0.form
  have hge : ds.getD x [] = ds[x] := by rw [List.getD_eq_getElem?_getD, List.getElem?_eq_getElem hx]; rfl
  have X2 := hd ((Ext.new w (.cells #[.slice (some a) ds.length c] 28)).alloc (.cells #[.int .i64 kd, .int .i64 (x : Int)] 52))
  have HNO := hd (fun w' hx' => i_nodesOf ds[x] _ w' (hr0.ext hx') (by rw [← hge]; exact hp) (by rw [← hge]; exact hpl) : ∀ w', Ext w w' → _)
  have hcx := X2.out.cell hc0
  have hml := msk_lt ds[x] (by rw [← hge]; exact hp.out)
  have hfd : fedB ds P x = (ds[x]).all fun p => P.testBit p.toNat := by unfold fedB; rw [hge]
  have hmf := msk_fed (P := P) (ys := ds[x])
  rw [← hfd] at hmf
  have hin : inB (x : Int) 0 ((ds.length : Int) - 1) = true := inB_iff.2 (by omega)
  have HIN := hd hin
  have hw := u64pow (m := x) (by omega)
  have hp2 : 2 ^ x ≤ 512 := by have := Nat.pow_le_pow_right (n := 2) (by decide) (show x ≤ 9 by omega); simpa using this
  have hpp : 0 < 2 ^ x := Nat.pow_pos (by decide)
  have han := andU P (2 ^ x) (by omega) (by omega)
  rw [and_bit] at han
  have hor := orU P (2 ^ x) (by omega) (by omega)
  have hnn := andN_all ⟨P, hP⟩ ⟨x, by omega⟩
  simp only at hnn
  have ham := andU P (mskN ds[x]) (by omega) (by omega)
  have hx0 : (0 : Int) ≤ (x : Int) := by omega
  clear hC hin hr0 hc0 hge hp hpl hfd
  generalize mskN ds[x] = M at *
  obtain ⟨fd, hfd⟩ : ∃ q, fedB ds P x = q := ⟨_, rfl⟩
  obtain ⟨b, hb⟩ : ∃ q, P.testBit x = q := ⟨_, rfl⟩
  have hmv : mvB ds rev P kd x = if kd = 1 then (!b && fd) else (b && (fd || !rev)) := by unfold mvB; rw [hb, hfd]
  rw [hmv]
  rw [hb] at han
  rw [hfd] at hmf
  have hof : b = false → P ||| 2 ^ x = P ^^^ 2 ^ x := fun e => or_flip (by rw [hb, e])
  have hnf : b = true → P ^^^ (P &&& 2 ^ x) = P ^^^ 2 ^ x := fun e => xor_clear (by rw [hb, e])
  clear hmv hb hfd
  generalize P ^^^ 2 ^ x = F at *
  generalize ds[x] = y at *
  obtain ⟨T, hT⟩ : ∃ T, 2 ^ x = T := ⟨_, rfl⟩
  rw [hT] at hw hp2 hpp han hor hnn hof hnf
  clear hT
  rcases hk with rfl | rfl
  · rw [if_pos rfl]
    cases b
    · have han0 : bits .and .u64 (P : Int) (T : Int) = 0 := by rw [han]; rfl
      rw [hof rfl] at hor
      clear hof hnf hnn han
      cases fd
      · have hne : ¬ P &&& M = M := fun e => by have := hmf.1 e; cases this
        have hne2 : ¬ ((P &&& M : Nat) : Int) = (M : Int) := by omega
        clear hmf
        generalize P &&& M = R at *
        go_enter Try.func47, Try.ntmps47
        go_wp2_with (first | (go_at_call 28; (with_reducible refine (rt (i_within _ _ _ _) HIN).mono ?_); rintro e w1 ⟨rfl, rfl⟩) | (go_at_call 51; refine (HNO.out _ X2.out).mono ?_; rintro e w1 ⟨rfl, rfl⟩))
        go_ret2
        exact RetX.mk (by simp) X2.out
      · have he : P &&& M = M := hmf.2 rfl
        rw [he] at ham
        clear hmf he
        go_enter Try.func47, Try.ntmps47
        go_wp2_with (first | (go_at_call 28; (with_reducible refine (rt (i_within _ _ _ _) HIN).mono ?_); rintro e w1 ⟨rfl, rfl⟩) | (go_at_call 51; refine (HNO.out _ X2.out).mono ?_; rintro e w1 ⟨rfl, rfl⟩))
        go_ret2
        exact RetX.mk (by simp) X2.out
    · have han0 : bits .and .u64 (P : Int) (T : Int) = (T : Int) := by rw [han]; rfl
      have hT0 : ¬ (T : Int) = 0 := by omega
      clear hof hnf hnn han hmf
      generalize P &&& M = R at *
      cases fd
      all_goals
        go_enter Try.func47, Try.ntmps47
        go_wp2_with (first | (go_at_call 28; (with_reducible refine (rt (i_within _ _ _ _) HIN).mono ?_); rintro e w1 ⟨rfl, rfl⟩) | (go_at_call 51; refine (HNO.out _ X2.out).mono ?_; rintro e w1 ⟨rfl, rfl⟩))
        go_ret2
        exact RetX.mk (by simp) X2.out
  · rw [if_neg (by decide)]
    cases b
    · have han0 : bits .and .u64 (P : Int) (T : Int) = 0 := by rw [han]; rfl
      clear hof hnf hnn han hmf
      generalize P &&& M = R at *
      cases fd
      all_goals
        cases rev
        all_goals
          go_enter Try.func47, Try.ntmps47
          go_wp2_with (first | (go_at_call 28; (with_reducible refine (rt (i_within _ _ _ _) HIN).mono ?_); rintro e w1 ⟨rfl, rfl⟩) | (go_at_call 51; refine (HNO.out _ X2.out).mono ?_; rintro e w1 ⟨rfl, rfl⟩))
          go_ret2
          exact RetX.mk (by simp) X2.out
    · have han0 : bits .and .u64 (P : Int) (T : Int) = (T : Int) := by rw [han]; rfl
      have hT0 : ¬ (T : Int) = 0 := by omega
      rw [hnf rfl] at hnn
      clear hof hnf han hor
      cases fd
      · have hne : ¬ P &&& M = M := fun e => by have := hmf.1 e; cases this
        have hne2 : ¬ ((P &&& M : Nat) : Int) = (M : Int) := by omega
        have hb1 : (((P &&& M : Nat) : Int) == (M : Int)) = false := by simpa using hne2
        have hb2 : ((T : Int) != 0) = true := by simpa using hT0
        clear hmf
        generalize P &&& M = R at *
        cases rev
        all_goals
          go_enter Try.func47, Try.ntmps47
          go_wp2_with (first | (go_at_call 28; (with_reducible refine (rt (i_within _ _ _ _) HIN).mono ?_); rintro e w1 ⟨rfl, rfl⟩) | (go_at_call 51; refine (HNO.out _ X2.out).mono ?_; rintro e w1 ⟨rfl, rfl⟩))
          go_ret2
          exact RetX.mk (by simp) X2.out
      · have he : P &&& M = M := hmf.2 rfl
        rw [he] at ham
        clear hmf he
        cases rev
        all_goals
          go_enter Try.func47, Try.ntmps47
          go_wp2_with (first | (go_at_call 28; (with_reducible refine (rt (i_within _ _ _ _) HIN).mono ?_); rintro e w1 ⟨rfl, rfl⟩) | (go_at_call 51; refine (HNO.out _ X2.out).mono ?_; rintro e w1 ⟨rfl, rfl⟩))
          go_ret2
          exact RetX.mk (by simp) X2.out
end Go.Proofs.Ytapgpjhogdmjbaa
