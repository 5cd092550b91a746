/-
  Chapter 22, the reference: the end of a formula in a text, which texts are formulas, the parts of a formula. Condition: sizes up to 2^20.
-/
import Derived.Test.YtapgpjhogdmjbaaDoorFmW
import Derived.Test.YtapgpjhogdmjbaaDoorC1
namespace Go.Proofs.YtapgpjhogdmjbaaDoor
open Go.RowKit
/-- The function's call at an index. -/
def EndC (s : ByteArray) (j : Nat) : Prop := ∀ w, Calls Tryd.prog 52 #[.string s, .int .i64 j] w (Ret w (.int .i64 (endV s.data.toList j)))
theorem endC_at {s : ByteArray} {j : Nat} {z : Int} (h : Hid (EndC s j)) (hz : Hid (endV s.data.toList j = z)) (w : World) : Calls Tryd.prog 52 #[.string s, .int .i64 j] w (Ret w (.int .i64 z)) := by
  have := h.out w
  rw [hz.out] at this
  exact this
set_option maxRecDepth 100000 in
set_option maxHeartbeats 800000 in
theorem se_over (s : ByteArray) (k : Nat) (h : ¬ k < s.size) : EndC s k := by
  intro w
  have HE : Hid (endV s.data.toList k = -1) := hd (endV_nil (by rw [len_list]; omega))
  go_enter Tryd.func52, Tryd.ntmps52
  go_wp2
  go_ret
  exact Ret.mk (congrArg (Value.int .i64) HE.out.symm)
set_option maxRecDepth 100000 in
set_option maxHeartbeats 800000 in
theorem se_leaf (s : ByteArray) (k : Nat) (hk : k ≤ 2097152) (hlt : k < s.size) (hl : isLf s[k] = true) : EndC s k := by
  intro w
  have HE : Hid (endV s.data.toList k = (k : Int) + 1) := hd (by
    rw [endV_some (f := .leaf s[k]) (r := s.data.toList.drop (k + 1)) (by rw [drop_get hlt, pL_leaf hl]), len_list, List.length_drop, len_list]; omega)
  rcases byte_cases s[k] with ⟨_, hc | hc | ⟨hc1, hc2⟩⟩ | hc | hc | ⟨h, _⟩
  · clear hl
    go_enter Tryd.func52, Tryd.ntmps52
    go_wp2
    go_ret
    exact Ret.mk (congrArg (Value.int .i64) HE.out.symm)
  · clear hl
    go_enter Tryd.func52, Tryd.ntmps52
    go_wp2
    go_ret
    exact Ret.mk (congrArg (Value.int .i64) HE.out.symm)
  · have g1 : ((s[k].toNat : Int) == 48) = false := by simp; omega
    have g2 : ((s[k].toNat : Int) == 49) = false := by simp; omega
    have g3 : (97 : Int) ≤ (s[k].toNat : Int) := by omega
    have g4 : (s[k].toNat : Int) ≤ 102 := by omega
    clear hl hc1 hc2
    go_enter Tryd.func52, Tryd.ntmps52
    go_wp2
    go_ret
    exact Ret.mk (congrArg (Value.int .i64) HE.out.symm)
  · rw [u8_eq hc] at hl; exact absurd hl (by decide)
  · rw [u8_eq hc] at hl; exact absurd hl (by decide)
  · rw [h] at hl; cases hl
set_option maxRecDepth 100000 in
set_option maxHeartbeats 800000 in
theorem se_bad (s : ByteArray) (k : Nat) (hlt : k < s.size) (hl : isLf s[k] = false) (h4 : s[k].toNat ≠ 126) (h5 : s[k].toNat ≠ 40) : EndC s k := by
  intro w
  have HE : Hid (endV s.data.toList k = -1) := hd (endV_none (by rw [drop_get hlt]; exact pL_bad hl (fun h => h4 (by rw [h]; rfl)) (fun h => h5 (by rw [h]; rfl))))
  rcases byte_cases s[k] with ⟨h, _⟩ | hc | hc | ⟨_, h1, h2, h3, _, _⟩
  · rw [h] at hl; cases hl
  · exact absurd hc h4
  · exact absurd hc h5
  have g1 : ((s[k].toNat : Int) == 48) = false := by simp; omega
  have g2 : ((s[k].toNat : Int) == 49) = false := by simp; omega
  have g5 : ((s[k].toNat : Int) == 126) = false := by simp; omega
  have g6 : ((s[k].toNat : Int) != 40) = true := by simp; omega
  clear hl h1 h2 h4 h5
  rcases h3 with h3 | h3
  · have g3 : ¬ (97 : Int) ≤ (s[k].toNat : Int) := by omega
    clear h3
    go_enter Tryd.func52, Tryd.ntmps52
    go_wp2
    go_ret
    exact Ret.mk (congrArg (Value.int .i64) HE.out.symm)
  · have g3 : (97 : Int) ≤ (s[k].toNat : Int) := by omega
    have g4 : ¬ (s[k].toNat : Int) ≤ 102 := by omega
    clear h3
    go_enter Tryd.func52, Tryd.ntmps52
    go_wp2
    go_ret
    exact Ret.mk (congrArg (Value.int .i64) HE.out.symm)
set_option maxRecDepth 100000 in
set_option maxHeartbeats 800000 in
theorem se_neg (s : ByteArray) (k : Nat) (hk : k ≤ 2097152) (hlt : k < s.size) (hc : s[k].toNat = 126) (HR : Hid (EndC s (k + 1))) : EndC s k := by
  intro w
  have HE : Hid (endV s.data.toList k = endV s.data.toList (k + 1)) := hd (by
    unfold endV
    rw [drop_get hlt, u8_eq hc]
    show (match pL (126 :: _) with | some (_, r) => _ | none => _) = _
    rw [pL_neg]
    cases pL (s.data.toList.drop (k + 1)) with
    | none => rfl
    | some q => obtain ⟨a, r⟩ := q; rfl)
  go_enter Tryd.func52, Tryd.ntmps52
  go_wp2_with fail
  refine (HR.out _).mono ?_
  rintro e w1 ⟨rfl, rfl⟩
  go_wp2
  go_ret
  exact Ret.mk (congrArg (Value.int .i64) HE.out.symm)
set_option maxRecDepth 100000 in
set_option maxHeartbeats 800000 in
theorem se_open1 (s : ByteArray) (k : Nat) (hk : k ≤ 2097152) (hlt : k < s.size) (hc : s[k].toNat = 40) (HR : Hid (EndC s (k + 1))) (HM : Hid (endV s.data.toList (k + 1) = -1)) (HE : Hid (endV s.data.toList k = -1)) : EndC s k := by
  intro w
  go_enter Tryd.func52, Tryd.ntmps52
  go_wp2_with fail
  refine (endC_at HR HM _).mono ?_
  rintro e w1 ⟨rfl, rfl⟩
  go_wp2
  go_ret
  exact Ret.mk (congrArg (Value.int .i64) HE.out.symm)
set_option maxRecDepth 100000 in
set_option maxHeartbeats 800000 in
theorem se_open2 (s : ByteArray) (k m : Nat) (hk : k ≤ 2097152) (hlt : k < s.size) (hc : s[k].toNat = 40) (HR : Hid (EndC s (k + 1))) (HM : Hid (endV s.data.toList (k + 1) = (m : Int))) (hm : m ≤ s.size) (hs : s.size ≤ 1048576) (hbad : (∃ h : m < s.size, isOp s[m] = false) ∨ ¬ m < s.size) (HE : Hid (endV s.data.toList k = -1)) : EndC s k := by
  intro w
  rcases hbad with ⟨hml, ho⟩ | hml
  · rcases op_cases s[m] with ⟨h, _⟩ | ⟨_, g1, g2, g3⟩
    · rw [h] at ho; cases ho
    have q1 : ((s[m].toNat : Int) != 38) = true := by simp; omega
    have q2 : ((s[m].toNat : Int) != 124) = true := by simp; omega
    have q3 : ((s[m].toNat : Int) != 62) = true := by simp; omega
    clear ho g1 g2 g3
    go_enter Tryd.func52, Tryd.ntmps52
    go_wp2_with fail
    refine (endC_at HR HM _).mono ?_
    rintro e w1 ⟨rfl, rfl⟩
    go_wp2
    go_ret
    exact Ret.mk (congrArg (Value.int .i64) HE.out.symm)
  · go_enter Tryd.func52, Tryd.ntmps52
    go_wp2_with fail
    refine (endC_at HR HM _).mono ?_
    rintro e w1 ⟨rfl, rfl⟩
    go_wp2
    go_ret
    exact Ret.mk (congrArg (Value.int .i64) HE.out.symm)
/-- The three tests of a sign, in one. -/
theorem op_tests {c : UInt8} (h : isOp c = true) : (((c.toNat : Int) != 38) && ((c.toNat : Int) != 124) && ((c.toNat : Int) != 62)) = false := by
  rcases op_cases c with ⟨_, h | h | h⟩ | ⟨h', _⟩
  · rw [h]; rfl
  · rw [h]; rfl
  · rw [h]; rfl
  · rw [h'] at h; cases h
set_option maxRecDepth 100000 in
set_option maxHeartbeats 800000 in
theorem se_open3 (s : ByteArray) (k m : Nat) (z : Int) (hk : k ≤ 2097152) (hlt : k < s.size) (hc : s[k].toNat = 40) (HR : Hid (EndC s (k + 1))) (HM : Hid (endV s.data.toList (k + 1) = (m : Int))) (hml : m < s.size) (hs : s.size ≤ 1048576) (ho : isOp s[m] = true) (HR2 : Hid (EndC s (m + 1))) (HM2 : Hid (endV s.data.toList (m + 1) = z))
    (hz : z < 0 ∨ (∃ m2 : Nat, z = m2 ∧ ¬ m2 < s.size) ∨ (∃ m2 : Nat, z = m2 ∧ ∃ h : m2 < s.size, s[m2].toNat ≠ 41)) (HE : Hid (endV s.data.toList k = -1)) : EndC s k := by
  intro w
  rcases op_cases s[m] with ⟨_, h | h | h⟩ | ⟨h', _⟩
  case inr => rw [h'] at ho; cases ho
  all_goals
    clear ho
    rcases hz with hz | ⟨m2, rfl, hz⟩ | ⟨m2, rfl, hz, hz2⟩
  all_goals
    try (have g5 : ((s[m2].toNat : Int) != 41) = true := by simp; omega)
    try clear hz2
    go_enter Tryd.func52, Tryd.ntmps52
    go_wp2_with fail
    refine (endC_at HR HM _).mono ?_
    rintro e w1 ⟨rfl, rfl⟩
    go_wp2_with fail
    refine (endC_at HR2 HM2 _).mono ?_
    rintro e w1 ⟨rfl, rfl⟩
    go_wp2
    go_ret
    exact Ret.mk (congrArg (Value.int .i64) HE.out.symm)
set_option maxRecDepth 100000 in
set_option maxHeartbeats 800000 in
theorem se_open4 (s : ByteArray) (k m m2 : Nat) (hk : k ≤ 2097152) (hlt : k < s.size) (hc : s[k].toNat = 40) (HR : Hid (EndC s (k + 1))) (HM : Hid (endV s.data.toList (k + 1) = (m : Int))) (hml : m < s.size) (hs : s.size ≤ 1048576) (ho : isOp s[m] = true) (HR2 : Hid (EndC s (m + 1))) (HM2 : Hid (endV s.data.toList (m + 1) = (m2 : Int)))
    (hm2 : m2 < s.size) (h41 : s[m2].toNat = 41) (HE : Hid (endV s.data.toList k = (m2 : Int) + 1)) : EndC s k := by
  intro w
  rcases op_cases s[m] with ⟨_, h | h | h⟩ | ⟨h', _⟩
  case inr => rw [h'] at ho; cases ho
  all_goals
    clear ho
    go_enter Tryd.func52, Tryd.ntmps52
    go_wp2_with fail
    refine (endC_at HR HM _).mono ?_
    rintro e w1 ⟨rfl, rfl⟩
    go_wp2_with fail
    refine (endC_at HR2 HM2 _).mono ?_
    rintro e w1 ⟨rfl, rfl⟩
    go_wp2
    go_ret
    exact Ret.mk (congrArg (Value.int .i64) HE.out.symm)
theorem s_l22End (s : ByteArray) (hs : s.size ≤ 1048576) : ∀ (n k : Nat), s.size - k ≤ n → k ≤ 2097152 → EndC s k := by
  intro n
  induction n with
  | zero => intro k hn _; exact se_over s k (by omega)
  | succ n ih =>
    intro k hn hk
    by_cases hlt : k < s.size
    · rcases byte_cases s[k] with ⟨hl, _⟩ | hc | hc | ⟨hl, _, _, _, h4, h5⟩
      · exact se_leaf s k hk hlt hl
      · exact se_neg s k hk hlt hc (hd (ih (k + 1) (by omega) (by omega)))
      · have HR := hd (ih (k + 1) (by omega) (by omega))
        have HE0 : endV s.data.toList k = match pB (s.data.toList.drop (k + 1)) with
            | some (_, r) => (s.data.toList.length : Int) - (r.length : Int)
            | none => -1 := by
          unfold endV
          rw [drop_get hlt, u8_eq hc]
          show (match pL (40 :: _) with | some (_, r) => _ | none => _) = _
          rw [pL_open]
        cases hp : pL (s.data.toList.drop (k + 1)) with
        | none => exact se_open1 s k hk hlt hc HR (hd (endV_none hp)) (hd (by rw [HE0]; unfold pB; rw [hp]))
        | some q =>
          obtain ⟨a, r⟩ := q
          obtain ⟨_, m, hm1, hm2, hr, hm3⟩ := pL_drop hp
          rw [len_list] at hm2
          have HM : Hid (endV s.data.toList (k + 1) = (m : Int)) := hd (by rw [endV_some hp]; exact hm3)
          by_cases hml : m < s.size
          · rw [hr, drop_get hml] at hp
            cases ho : isOp s[m] with
            | false => exact se_open2 s k m hk hlt hc HR HM hm2 hs (.inl ⟨hml, ho⟩) (hd (by rw [HE0]; unfold pB; rw [hp]; dsimp only; rw [ho, if_neg (by decide)]))
            | true =>
              have HR2 := hd (ih (m + 1) (by omega) (by omega))
              have HE1 : pB (s.data.toList.drop (k + 1)) = match pL (s.data.toList.drop (m + 1)) with
                  | none => none
                  | some (_, []) => none
                  | some (b, e :: r2) => if e = 41 then some (.bin s[m] a b, r2) else none := by
                unfold pB; rw [hp]; dsimp only; rw [ho, if_pos rfl]
                rfl
              cases hp2 : pL (s.data.toList.drop (m + 1)) with
              | none => exact se_open3 s k m (-1) hk hlt hc HR HM hml hs ho HR2 (hd (endV_none hp2)) (.inl (by decide)) (hd (by rw [HE0, HE1, hp2]))
              | some q2 =>
                obtain ⟨b, r2⟩ := q2
                obtain ⟨_, m2, hn1, hn2, hr2, hm4⟩ := pL_drop hp2
                rw [len_list] at hn2
                have HM2 : Hid (endV s.data.toList (m + 1) = (m2 : Int)) := hd (by rw [endV_some hp2]; exact hm4)
                by_cases hml2 : m2 < s.size
                · rw [hr2, drop_get hml2] at hp2
                  by_cases he : s[m2].toNat = 41
                  · exact se_open4 s k m m2 hk hlt hc HR HM hml hs ho HR2 HM2 hml2 he (hd (by
                      rw [HE0, HE1, hp2]; dsimp only; rw [if_pos (show s[m2] = 41 from u8_eq he)]; show (s.data.toList.length : Int) - ((s.data.toList.drop (m2 + 1)).length : Int) = _; rw [List.length_drop, len_list]; clear HE0 HE1 hp2 hp hm4 hm3; omega))
                  · exact se_open3 s k m m2 hk hlt hc HR HM hml hs ho HR2 HM2 (.inr (.inr ⟨m2, rfl, hml2, he⟩)) (hd (by
                      rw [HE0, HE1, hp2]; dsimp only; rw [if_neg (fun h => he (by rw [h]; rfl))]))
                · have h0 : r2 = [] := by rw [hr2]; exact List.drop_eq_nil_of_le (by rw [len_list]; omega)
                  rw [h0] at hp2
                  exact se_open3 s k m m2 hk hlt hc HR HM hml hs ho HR2 HM2 (.inr (.inl ⟨m2, rfl, hml2⟩)) (hd (by rw [HE0, HE1, hp2]))
          · have h0 : r = [] := by rw [hr]; exact List.drop_eq_nil_of_le (by rw [len_list]; omega)
            rw [h0] at hp
            exact se_open2 s k m hk hlt hc HR HM hm2 hs (.inr hml) (hd (by rw [HE0]; unfold pB; rw [hp]))
      · exact se_bad s k hlt hl h4 h5
    · exact se_over s k hlt
/-- The text is a formula. -/
def isF (s : ByteArray) : Bool := (goodF s).isSome
set_option maxRecDepth 100000 in
set_option maxHeartbeats 800000 in
theorem s_l22Good (s : ByteArray) (w : World) : Calls Tryd.prog 41 #[.string s] w (Ret w (.bool (isF s))) := by
  rcases Nat.eq_zero_or_pos s.size with h0 | h0
  · have HF : Hid (isF s = false) := hd (by
      unfold isF goodF
      rw [if_pos (by omega), List.eq_nil_of_length_eq_zero (by rw [len_list]; exact h0 : s.data.toList.length = 0), pL_nil]; rfl)
    go_enter Tryd.func41, Tryd.ntmps41
    go_wp2
    go_ret
    exact Ret.mk (by rw [HF.out]; rfl)
  · by_cases h80 : s.size ≤ 80
    · have HE : Hid (isF s = (endV s.data.toList 0 == (s.size : Int))) := hd (by
        unfold isF goodF endV
        rw [if_pos h80, List.drop_zero]
        cases hp : pL s.data.toList with
        | none => simp
        | some q =>
          obtain ⟨f, r⟩ := q
          cases r with
          | nil => simp
          | cons c r => simp; omega)
      generalize hz : endV s.data.toList 0 = z at *
      have HZ := hd (congrArg (Value.int .i64) hz)
      clear hz
      go_enter Tryd.func41, Tryd.ntmps41
      go_wp2_with fail
      refine (rv (s_l22End s (by omega) s.size 0 (by omega) (by omega) _) HZ).mono ?_
      rintro e w1 ⟨rfl, rfl⟩
      go_wp2
      go_ret
      exact Ret.mk (by rw [HE.out]; rfl)
    · have HF : Hid (isF s = false) := hd (by unfold isF goodF; rw [if_neg h80]; rfl)
      go_enter Tryd.func41, Tryd.ntmps41
      go_wp2
      go_ret
      exact Ret.mk (by rw [HF.out]; rfl)
end Go.Proofs.YtapgpjhogdmjbaaDoor
