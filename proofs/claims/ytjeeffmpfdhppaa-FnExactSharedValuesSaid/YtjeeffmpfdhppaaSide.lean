/-
  The reference's sides of a formula: which variables are in left clauses, in right ones, in both. Conditions: sizes up to 2^20.
-/
import Derived.Test.YtjeeffmpfdhppaaGood
import Derived.Test.YtjeeffmpfdhppaaHoS
import Derived.Test.YtjeeffmpfdhppaaSortM
namespace Go.Proofs.Ytjeeffmpfdhppaa
open Go.RowKit
theorem add_add' (a : Addr) (i j : Nat) : (a.add i).add j = a.add (i + j) := add_add a i j
/-- A slice and where it is cut: nil, cut at its capacity, or before. -/
theorem rdSS_cut {w : World} {A : Option Addr} {n c k : Nat} {xss : List (List Int)} (h : RdSS w (.slice A n c) xss) (hk : k ≤ xss.length) :
    (A = none ∧ xss = [] ∧ k = 0) ∨ (∃ a, A = some a ∧ c = k ∧ xss.length = k) ∨ (∃ a, A = some a ∧ k < c) := by
  obtain ⟨vs, ⟨hl, A', c', hv, h1, h2, hc⟩, hin⟩ := h
  injection hv with e1 e2 e3
  subst e1; subst e3
  cases A with
  | none =>
    refine .inl ⟨rfl, ?_⟩
    have h0 : xss.length = 0 := by
      rcases Nat.eq_zero_or_pos xss.length with h0 | h0
      · exact h0
      · obtain ⟨a, ha, _⟩ := hc 0 (vs[0]'(by omega)) (List.getElem?_eq_getElem (by omega))
        cases ha
    exact ⟨List.eq_nil_of_length_eq_zero h0, by omega⟩
  | some a =>
    by_cases e : c = k
    · exact .inr (.inl ⟨a, rfl, e, by omega⟩)
    · exact .inr (.inr ⟨a, rfl, by omega⟩)
theorem rdSS_take {w : World} {a : Addr} {n c k : Nat} {xss : List (List Int)} (h : RdSS w (.slice (some a) n c) xss) (hk : k ≤ xss.length) : RdSS w (.slice (some a) k c) (xss.take k) := by
  obtain ⟨vs, ⟨hl, A', c', hv, h1, h2, hc⟩, hin⟩ := h
  injection hv with e1 e2 e3
  subst e1; subst e3
  refine ⟨vs.take k, ⟨by simp; omega, some a, c, by simp [Nat.min_eq_left hk], by simp; omega, h2, fun j u hu => ?_⟩, fun i xs hx => ?_⟩
  · have hj := (List.getElem?_eq_some_iff.1 hu).1
    simp at hj
    exact hc j u (by rw [← hu, List.getElem?_take_of_lt (by omega)])
  · have hi := (List.getElem?_eq_some_iff.1 hx).1
    simp at hi
    rw [List.getElem?_take_of_lt (by omega)] at hx
    obtain ⟨u, hu, hr⟩ := hin i xs hx
    exact ⟨u, by rw [List.getElem?_take_of_lt (by omega)]; exact hu, hr⟩
theorem rdSS_drop {w : World} {a : Addr} {n c k : Nat} {xss : List (List Int)} (h : RdSS w (.slice (some a) n c) xss) (hk : k ≤ xss.length) : RdSS w (.slice (some (a.add k)) (xss.length - k) (c - k)) (xss.drop k) := by
  obtain ⟨vs, ⟨hl, A', c', hv, h1, h2, hc⟩, hin⟩ := h
  injection hv with e1 e2 e3
  subst e1; subst e3
  refine ⟨vs.drop k, ⟨by simp; omega, some (a.add k), c - k, by simp, by simp; omega, by omega, fun j u hu => ⟨_, rfl, ?_⟩⟩, fun i xs hx => ?_⟩
  · rw [List.getElem?_drop] at hu
    obtain ⟨a', ha', hcell⟩ := hc (k + j) u hu
    injection ha' with ha'
    subst ha'
    rw [add_add]
    exact hcell
  · rw [List.getElem?_drop] at hx
    obtain ⟨u, hu, hr⟩ := hin (k + i) xs hx
    exact ⟨u, by rw [List.getElem?_drop]; exact hu, hr⟩
theorem rdSS_dropZ {w : World} {A : Option Addr} {k c : Nat} {xss : List (List Int)} (hk : xss.length ≤ k) (hc : c ≤ maxLen) : RdSS w (.slice A 0 c) (xss.drop k) := by
  rw [List.drop_eq_nil_of_le hk]
  exact ⟨[], ⟨rfl, A, c, rfl, Nat.zero_le _, hc, fun j u hu => by simp at hu⟩, fun i xs hx => by simp at hx⟩
theorem rdSS_takeZ {w : World} {A : Option Addr} {c : Nat} {xss : List (List Int)} (hc : c ≤ maxLen) : RdSS w (.slice A 0 c) (xss.take 0) := by
  exact ⟨[], ⟨rfl, A, c, rfl, Nat.zero_le _, hc, fun j u hu => by simp at hu⟩, fun i xs hx => by simp at hx⟩
def occB (cs : List (List Int)) (l : Int) : Bool := anyL (fun c => hasI c l) cs
theorem occB_iff (cs : List (List Int)) (l : Int) : occB cs l = true ↔ ∃ c ∈ cs, l ∈ c := by
  unfold occB
  rw [anyL_eq, List.any_eq_true]
  constructor
  · rintro ⟨c, h1, h2⟩; exact ⟨c, h1, (hasI_iff _ _).1 h2⟩
  · rintro ⟨c, h1, h2⟩; exact ⟨c, h1, (hasI_iff _ _).2 h2⟩
def inS (cs : List (List Int)) (v : Int) : Bool := if occB cs v then true else occB cs (-v)
def askB (f : Cnf) (k : Int) : Bool := goodB f && inB k 0 f.cs.length
theorem ask_inv {f : Cnf} {k : Int} (h : askB f k = true) : goodB f = true ∧ ∃ j : Nat, k = j ∧ j ≤ f.cs.length := by
  unfold askB at h
  rw [Bool.and_eq_true] at h
  have := inB_iff.1 h.2
  exact ⟨h.1, k.toNat, by omega, by omega⟩
/-- The variables up to j that are in left clauses alone, in right ones alone, in both. -/
def leftV (f : Cnf) (k j : Nat) : List Int := (seqI 1 j).filter fun v => inS (f.cs.take k) v && !inS (f.cs.drop k) v
def rightV (f : Cnf) (k j : Nat) : List Int := (seqI 1 j).filter fun v => !inS (f.cs.take k) v && inS (f.cs.drop k) v
def bothV (f : Cnf) (k j : Nat) : List Int := (seqI 1 j).filter fun v => inS (f.cs.take k) v && inS (f.cs.drop k) v
theorem filt_len (p : Int → Bool) (j : Nat) : ((seqI 1 j).filter p).length ≤ j := Nat.le_trans (List.length_filter_le _ _) (by simp)
theorem filt_yes {p : Int → Bool} {j : Nat} (h : p ((j : Int) + 1) = true) : (seqI 1 (j + 1)).filter p = (seqI 1 j).filter p ++ [(j : Int) + 1] := by
  rw [seqI_snoc, List.filter_append, show (1 : Int) + (j : Int) = (j : Int) + 1 from Int.add_comm _ _]
  simp [h]
theorem filt_no {p : Int → Bool} {j : Nat} (h : p ((j : Int) + 1) = false) : (seqI 1 (j + 1)).filter p = (seqI 1 j).filter p := by
  rw [seqI_snoc, List.filter_append, show (1 : Int) + (j : Int) = (j : Int) + 1 from Int.add_comm _ _]
  simp [h]
theorem s_l2Has (xs : List Int) (v : Value) (x : Int) (w : World) (h : RdI w v xs) (hl : xs.length ≤ 1073741824) : Calls Try.prog 104 #[v, .int .i64 x] w (Ret w (.bool (hasI xs x))) := by
  have HA := hd h
  clear h
  go_enter Try.func104, Try.ntmps104
  go_wp2_with fail
  refine (s_l1Has xs v x _ HA.out hl).mono ?_
  rintro e w1 ⟨rfl, rfl⟩
  go_wp2
  go_ret
  exact Ret.mk rfl
set_option maxHeartbeats 800000 in
theorem s_l2Occurs (cs : List (List Int)) (v : Value) (l : Int) (w : World) (h : RdSS w v cs) (hl : cs.length ≤ 1073741824) (hle : Hid (∀ c ∈ cs, c.length ≤ 1073741824)) :
    Calls Try.prog 149 #[v, .int .i64 l] w (Ret w (.bool (occB cs l))) := by
  obtain ⟨A, c, rfl, h1, h2, ha⟩ := h.form
  clear h
  go_enter Try.func149, Try.ntmps149
  go_wp2
  go_loop [5] (fun i => ∃ k : Nat, k ≤ cs.length ∧ i = .int .i64 k ∧ Hid (occB cs l = occB (cs.drop k) l)) (fun i => cs.length - (intOf i).toNat)
  case atStart => exact ⟨0, by omega, rfl, hd rfl⟩
  case round =>
    obtain ⟨k, hk, rfl, HR⟩ := hrel
    by_cases hlt : k < cs.length
    · obtain ⟨a, u, rfl, hc, hr⟩ := RdSS.at_ ha hlt
      have HRD := hd hr
      have hdc : cs.drop k = cs[k] :: cs.drop (k + 1) := List.drop_eq_getElem_cons hlt
      rw [hdc] at HR
      have hxl := hd (hle.out _ (List.getElem_mem hlt))
      clear hr hdc
      generalize cs[k] = y at *
      obtain ⟨q, hq⟩ : ∃ q, hasI y l = q := ⟨_, rfl⟩
      have HQ := hd hq
      clear hq
      have HO : Hid (occB (y :: cs.drop (k + 1)) l = if q then true else occB (cs.drop (k + 1)) l) := hd (by unfold occB; rw [anyL, HQ.out])
      cases q
      · go_wp2_with fail
        refine (rt (s_l2Has y _ l _ HRD.out hxl.out) HQ).mono ?_
        rintro e w1 ⟨rfl, rfl⟩
        go_wp2
        go_round
        case rel => exact ⟨k + 1, by omega, by go_num, hd (by rw [HR.out, HO.out]; rfl)⟩
        case measure => simp [intOf]; omega
      · go_wp2_with fail
        refine (rt (s_l2Has y _ l _ HRD.out hxl.out) HQ).mono ?_
        rintro e w1 ⟨rfl, rfl⟩
        go_wp2
        go_ret
        exact Ret.mk (by rw [HR.out, HO.out]; rfl)
    · go_wp2
      go_ret
      exact Ret.mk (by rw [HR.out, List.drop_eq_nil_of_le (by omega)]; rfl)
set_option maxRecDepth 100000 in
set_option maxHeartbeats 3200000 in
theorem s_l29Left (f : Cnf) (v : Value) (k : Nat) (x : Int) (w : World) (h : Rd_Cnf w v f) (b : Bd_Cnf f) (hk : k ≤ f.cs.length) (hx : 1 ≤ x ∧ x ≤ 12) :
    Calls Try.prog 115 #[v, .int .i64 k, .int .i64 x] w (RetX w (.tuple #[.bool (inS (f.cs.take k) x), .bool (inS (f.cs.drop k) x)])) := by
  obtain ⟨vc, rfl, hC⟩ := h
  obtain ⟨A, c, rfl, h1, h2, ha⟩ := hC.form
  have hl := b.1
  have HLE := b.cl
  obtain ⟨n, cs⟩ := f
  simp only at *
  obtain ⟨hx1, hx2⟩ := hx
  have HLT : Hid (∀ y ∈ cs.take k, y.length ≤ 1073741824) := hd fun y hy => HLE.out y (List.mem_of_mem_take hy)
  have HRT : Hid (∀ y ∈ cs.drop k, y.length ≤ 1073741824) := hd fun y hy => HLE.out y (List.mem_of_mem_drop hy)
  have HTL : (cs.take k).length ≤ 1073741824 := by simp; omega
  have HDL : (cs.drop k).length ≤ 1073741824 := by simp; omega
  obtain ⟨p1, q1⟩ : ∃ q, occB (cs.take k) x = q := ⟨_, rfl⟩
  obtain ⟨p2, q2⟩ : ∃ q, occB (cs.take k) (-x) = q := ⟨_, rfl⟩
  obtain ⟨p3, q3⟩ : ∃ q, occB (cs.drop k) x = q := ⟨_, rfl⟩
  obtain ⟨p4, q4⟩ : ∃ q, occB (cs.drop k) (-x) = q := ⟨_, rfl⟩
  have P1 := hd q1
  have P2 := hd q2
  have P3 := hd q3
  have P4 := hd q4
  have HF : Hid (inS (cs.take k) x = (if p1 then true else p2) ∧ inS (cs.drop k) x = (if p3 then true else p4)) := hd ⟨by unfold inS; rw [q1, q2], by unfold inS; rw [q3, q4]⟩
  clear q1 q2 q3 q4
  have X0 : Hid (Ext w (w.alloc (.cells #[.int .i64 n, .slice A cs.length c] 31))) := hd (Ext.new _ _)
  have hcut := rdSS_cut ha.out hk
  have HC' := hd (RdSS.ext ha.out X0.out)
  clear hC b
  have e1 : (0 : Int) ≤ (k : Int) := by omega
  have e2 : (k : Int) ≤ (cs.length : Int) := by omega
  rcases hcut with ⟨rfl, h0, rfl⟩ | ⟨a, rfl, rfl, hck⟩ | ⟨a, rfl, hck⟩
  · subst h0
    have HL : Hid (RdSS (w.alloc (.cells #[.int .i64 n, .slice none 0 c] 31)) (.slice none 0 c) (([] : List (List Int)).take 0)) := hd (rdSS_takeZ h2)
    have HRR : Hid (RdSS (w.alloc (.cells #[.int .i64 n, .slice none 0 c] 31)) (.slice none 0 c) (([] : List (List Int)).drop 0)) := hd (rdSS_dropZ (by simp) h2)
    obtain rfl : p1 = false := P1.out.symm
    obtain rfl : p2 = false := P2.out.symm
    obtain rfl : p3 = false := P3.out.symm
    obtain rfl : p4 = false := P4.out.symm
    clear P1 P2 P3 P4
    have P1 : Hid (occB (([] : List (List Int)).take 0) x = false) := hd rfl
    have P2 : Hid (occB (([] : List (List Int)).take 0) (-x) = false) := hd rfl
    have P3 : Hid (occB (([] : List (List Int)).drop 0) x = false) := hd rfl
    have P4 : Hid (occB (([] : List (List Int)).drop 0) (-x) = false) := hd rfl
    have C1 : Hid (∀ m, Calls Try.prog 149 #[.slice none 0 c, .int .i64 x] ((w.alloc (.cells #[.int .i64 n, .slice none 0 c] 31)).drewN m) (Ret ((w.alloc (.cells #[.int .i64 n, .slice none 0 c] 31)).drewN m) (.bool false))) := hd fun m => rt (s_l2Occurs _ _ _ _ (RdSS.ext HL.out (ext_drewN _ _)) HTL HLT) P1
    have C2 : Hid (∀ m, Calls Try.prog 149 #[.slice none 0 c, .int .i64 (-x)] ((w.alloc (.cells #[.int .i64 n, .slice none 0 c] 31)).drewN m) (Ret ((w.alloc (.cells #[.int .i64 n, .slice none 0 c] 31)).drewN m) (.bool false))) := hd fun m => rt (s_l2Occurs _ _ _ _ (RdSS.ext HL.out (ext_drewN _ _)) HTL HLT) P2
    have C3 : Hid (∀ m, Calls Try.prog 149 #[.slice none 0 c, .int .i64 x] ((w.alloc (.cells #[.int .i64 n, .slice none 0 c] 31)).drewN m) (Ret ((w.alloc (.cells #[.int .i64 n, .slice none 0 c] 31)).drewN m) (.bool false))) := hd fun m => rt (s_l2Occurs _ _ _ _ (RdSS.ext HRR.out (ext_drewN _ _)) HDL HRT) P3
    have C4 : Hid (∀ m, Calls Try.prog 149 #[.slice none 0 c, .int .i64 (-x)] ((w.alloc (.cells #[.int .i64 n, .slice none 0 c] 31)).drewN m) (Ret ((w.alloc (.cells #[.int .i64 n, .slice none 0 c] 31)).drewN m) (.bool false))) := hd fun m => rt (s_l2Occurs _ _ _ _ (RdSS.ext HRR.out (ext_drewN _ _)) HDL HRT) P4
    clear HL HRR HTL HDL
    go_enter Try.func115, Try.ntmps115
    go_wp2_with fail
    go_quiet (fail)
    all_goals
      go_wp2_with (go_at_call 149; first | ((with_reducible refine (C1.out _).mono ?_); rintro e w1 ⟨rfl, rfl⟩) | ((with_reducible refine (C2.out _).mono ?_); rintro e w1 ⟨rfl, rfl⟩) | ((with_reducible refine (C3.out _).mono ?_); rintro e w1 ⟨rfl, rfl⟩) | ((with_reducible refine (C4.out _).mono ?_); rintro e w1 ⟨rfl, rfl⟩))
      go_ret2
      exact RetX.mk (by rw [HF.out.1, HF.out.2]; rfl) (X0.out.drewN _)
  · generalize hN : cs.length = N at *
    obtain rfl : N = c := by omega
    have HN := hd hN
    clear hN hck
    have HL := hd (rdSS_take (n := N) HC'.out (by rw [HN.out]; exact Nat.le_refl N) : RdSS (w.alloc (.cells #[.int .i64 n, .slice (some a) N N] 31)) (.slice (some a) N N) (cs.take N))
    have HRR := hd (rdSS_dropZ (A := some a) (k := N) (c := 0) (xss := cs) (w := w.alloc (.cells #[.int .i64 n, .slice (some a) N N] 31)) (by rw [HN.out]; exact Nat.le_refl _) (Nat.zero_le _))
    have C1 : Hid (∀ m, Calls Try.prog 149 #[.slice (some a) N N, .int .i64 x] ((w.alloc (.cells #[.int .i64 n, .slice (some a) N N] 31)).drewN m) (Ret ((w.alloc (.cells #[.int .i64 n, .slice (some a) N N] 31)).drewN m) (.bool p1))) := hd fun m => rt (s_l2Occurs _ _ _ _ (RdSS.ext HL.out (ext_drewN _ _)) HTL HLT) P1
    have C2 : Hid (∀ m, Calls Try.prog 149 #[.slice (some a) N N, .int .i64 (-x)] ((w.alloc (.cells #[.int .i64 n, .slice (some a) N N] 31)).drewN m) (Ret ((w.alloc (.cells #[.int .i64 n, .slice (some a) N N] 31)).drewN m) (.bool p2))) := hd fun m => rt (s_l2Occurs _ _ _ _ (RdSS.ext HL.out (ext_drewN _ _)) HTL HLT) P2
    have C3 : Hid (∀ m, Calls Try.prog 149 #[.slice (some a) 0 0, .int .i64 x] ((w.alloc (.cells #[.int .i64 n, .slice (some a) N N] 31)).drewN m) (Ret ((w.alloc (.cells #[.int .i64 n, .slice (some a) N N] 31)).drewN m) (.bool p3))) := hd fun m => rt (s_l2Occurs _ _ _ _ (RdSS.ext HRR.out (ext_drewN _ _)) HDL HRT) P3
    have C4 : Hid (∀ m, Calls Try.prog 149 #[.slice (some a) 0 0, .int .i64 (-x)] ((w.alloc (.cells #[.int .i64 n, .slice (some a) N N] 31)).drewN m) (Ret ((w.alloc (.cells #[.int .i64 n, .slice (some a) N N] 31)).drewN m) (.bool p4))) := hd fun m => rt (s_l2Occurs _ _ _ _ (RdSS.ext HRR.out (ext_drewN _ _)) HDL HRT) P4
    clear HL HRR HTL HDL
    go_enter Try.func115, Try.ntmps115
    go_wp2_with fail
    go_quiet (fail)
    cases p1 <;> cases p3
    all_goals
      go_wp2_with (go_at_call 149; first | ((with_reducible refine (C1.out _).mono ?_); rintro e w1 ⟨rfl, rfl⟩) | ((with_reducible refine (C2.out _).mono ?_); rintro e w1 ⟨rfl, rfl⟩) | ((with_reducible refine (C3.out _).mono ?_); rintro e w1 ⟨rfl, rfl⟩) | ((with_reducible refine (C4.out _).mono ?_); rintro e w1 ⟨rfl, rfl⟩))
      go_ret2
      exact RetX.mk (by rw [HF.out.1, HF.out.2]; rfl) (X0.out.drewN _)
  · have HL := hd (rdSS_take HC'.out hk)
    have HRR := hd (rdSS_drop HC'.out hk)
    have hkc : k ≤ c := by omega
    have hkn : ¬ c = k := by omega
    have C1 : Hid (∀ m, Calls Try.prog 149 #[.slice (some a) k c, .int .i64 x] ((w.alloc (.cells #[.int .i64 n, .slice (some a) cs.length c] 31)).drewN m) (Ret ((w.alloc (.cells #[.int .i64 n, .slice (some a) cs.length c] 31)).drewN m) (.bool p1))) := hd fun m => rt (s_l2Occurs _ _ _ _ (RdSS.ext HL.out (ext_drewN _ _)) HTL HLT) P1
    have C2 : Hid (∀ m, Calls Try.prog 149 #[.slice (some a) k c, .int .i64 (-x)] ((w.alloc (.cells #[.int .i64 n, .slice (some a) cs.length c] 31)).drewN m) (Ret ((w.alloc (.cells #[.int .i64 n, .slice (some a) cs.length c] 31)).drewN m) (.bool p2))) := hd fun m => rt (s_l2Occurs _ _ _ _ (RdSS.ext HL.out (ext_drewN _ _)) HTL HLT) P2
    have C3 : Hid (∀ m, Calls Try.prog 149 #[.slice (some (a.add k)) (cs.length - k) (c - k), .int .i64 x] ((w.alloc (.cells #[.int .i64 n, .slice (some a) cs.length c] 31)).drewN m) (Ret ((w.alloc (.cells #[.int .i64 n, .slice (some a) cs.length c] 31)).drewN m) (.bool p3))) := hd fun m => rt (s_l2Occurs _ _ _ _ (RdSS.ext HRR.out (ext_drewN _ _)) HDL HRT) P3
    have C4 : Hid (∀ m, Calls Try.prog 149 #[.slice (some (a.add k)) (cs.length - k) (c - k), .int .i64 (-x)] ((w.alloc (.cells #[.int .i64 n, .slice (some a) cs.length c] 31)).drewN m) (Ret ((w.alloc (.cells #[.int .i64 n, .slice (some a) cs.length c] 31)).drewN m) (.bool p4))) := hd fun m => rt (s_l2Occurs _ _ _ _ (RdSS.ext HRR.out (ext_drewN _ _)) HDL HRT) P4
    clear HL HRR HTL HDL
    go_enter Try.func115, Try.ntmps115
    go_wp2_with fail
    go_quiet (fail)
    cases p1 <;> cases p3
    all_goals
      go_wp2_with (go_at_call 149; first | ((with_reducible refine (C1.out _).mono ?_); rintro e w1 ⟨rfl, rfl⟩) | ((with_reducible refine (C2.out _).mono ?_); rintro e w1 ⟨rfl, rfl⟩) | ((with_reducible refine (C3.out _).mono ?_); rintro e w1 ⟨rfl, rfl⟩) | ((with_reducible refine (C4.out _).mono ?_); rintro e w1 ⟨rfl, rfl⟩))
      go_ret2
      exact RetX.mk (by rw [HF.out.1, HF.out.2]; rfl) (X0.out.drewN _)
end Go.Proofs.Ytjeeffmpfdhppaa
