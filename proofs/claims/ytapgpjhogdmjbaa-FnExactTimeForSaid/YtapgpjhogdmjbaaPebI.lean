/-
  Pebbling, the program's small words. Condition: at most ten nodes, positions below 1024.
-/
import Derived.Test.YtapgpjhogdmjbaaPebV
namespace Go.Proofs.Ytapgpjhogdmjbaa
open Go.RowKit Peb
namespace Oc
def o1 (P : Int) : Int := IntKind.u64.wrap (bits .and .u64 (P / 2) 6148914691236517205 + bits .and .u64 P 6148914691236517205)
def o2 (x : Int) : Int := IntKind.u64.wrap (bits .and .u64 (x / 4) 3689348814741910323 + bits .and .u64 x 3689348814741910323)
def o3 (x : Int) : Int := bits .and .u64 (IntKind.u64.wrap (x / 16 + x)) 1085102592571150095
def o4 (x : Int) : Int := IntKind.u64.wrap (x + x / 256)
def o5 (x : Int) : Int := IntKind.u64.wrap (x + x / 65536)
def o6 (x : Int) : Int := IntKind.u64.wrap (x + x / 4294967296)
def all (P : Int) : Int := bits .and .i64 (wrap64 (o6 (o5 (o4 (o3 (o2 (o1 P))))))) 127
theorem eq : ∀ P : Fin 1024, all ((P.1 : Nat) : Int) = ((cnt P.1 : Nat) : Int) := by decide +kernel
end Oc
set_option maxHeartbeats 800000 in
theorem bits_OnesCount64 (P : Nat) (w : World) (hP : P < 1024) : Calls Try.prog 53 #[.int .u64 (P : Int)] w (Ret w (.int .i64 ((cnt P : Nat) : Int))) := by
  rw [← Oc.eq ⟨P, hP⟩]
  go_enter Try.func53, Try.ntmps53
  go_wp2
  go_ret
  refine Ret.mk ?_
  unfold Oc.all Oc.o6 Oc.o5 Oc.o4 Oc.o3 Oc.o2 Oc.o1
  rfl
set_option maxHeartbeats 800000 in
theorem bits_OnesCount (P : Nat) (w : World) (hP : P < 1024) : Calls Try.prog 50 #[.int .u64 (P : Int)] w (Ret w (.int .i64 ((cnt P : Nat) : Int))) := by
  go_enter Try.func50, Try.ntmps50
  go_wp2_with fail
  refine (bits_OnesCount64 P w hP).mono ?_
  rintro e w1 ⟨rfl, rfl⟩
  go_wp2
  go_ret
  exact Ret.mk rfl
theorem i_size (P : Nat) (w : World) (hP : P < 1024) : Calls Try.prog 42 #[.int .u64 (P : Int)] w (Ret w (.int .i64 ((cnt P : Nat) : Int))) := by
  go_enter Try.func42, Try.ntmps42
  go_wp2_with fail
  refine (bits_OnesCount P w hP).mono ?_
  rintro e w1 ⟨rfl, rfl⟩
  go_wp2
  go_ret
  exact Ret.mk rfl
/-- A set of numbers as a mask. -/
def mskN (ys : List Int) : Nat := ys.foldl (fun a p => a ||| 2 ^ p.toNat) 0
theorem msk_snoc (ys : List Int) (p : Int) : mskN (ys ++ [p]) = mskN ys ||| 2 ^ p.toNat := by simp [mskN]
theorem msk_lt : ∀ (ys : List Int), (∀ p ∈ ys, 0 ≤ p ∧ p ≤ 9) → mskN ys < 1024 := by
  intro ys
  have key : ∀ (ys : List Int) (a : Nat), a < 1024 → (∀ p ∈ ys, 0 ≤ p ∧ p ≤ 9) → ys.foldl (fun a p => a ||| 2 ^ p.toNat) a < 1024 := by
    intro ys
    induction ys with
    | nil => intro a h _; exact h
    | cons p r ih =>
      intro a h hp
      rw [List.foldl_cons]
      have := hp p (by simp)
      exact ih _ (Nat.or_lt_two_pow (n := 10) h (Nat.pow_lt_pow_right (by decide) (by omega))) fun q hq => hp q (by simp [hq])
  exact key ys 0 (by decide)
theorem msk_bit : ∀ (ys : List Int) (y : Nat), (mskN ys).testBit y = ys.any (fun p => decide (p.toNat = y)) := by
  intro ys y
  have key : ∀ (ys : List Int) (a : Nat), (ys.foldl (fun a p => a ||| 2 ^ p.toNat) a).testBit y = (a.testBit y || ys.any (fun p => decide (p.toNat = y))) := by
    intro ys
    induction ys with
    | nil => intro a; simp
    | cons p r ih => intro a; rw [List.foldl_cons, ih, Nat.testBit_or, Nat.testBit_two_pow, List.any_cons, Bool.or_assoc]
  rw [mskN, key]; simp
/-- All of them hold a pebble: the mask lies in the position. -/
theorem msk_fed {P : Nat} {ys : List Int} : (P &&& mskN ys = mskN ys) ↔ (ys.all fun p => P.testBit p.toNat) = true := by
  rw [List.all_eq_true]
  constructor
  · intro h p hp
    have e := congrArg (fun z => z.testBit p.toNat) h
    simp only [Nat.testBit_and, msk_bit] at e
    have ha : ys.any (fun q => decide (q.toNat = p.toNat)) = true := List.any_eq_true.2 ⟨p, hp, by simp⟩
    rw [ha] at e
    simpa using e
  · intro h
    apply Nat.eq_of_testBit_eq
    intro y
    rw [Nat.testBit_and, msk_bit]
    cases ha : ys.any (fun q => decide (q.toNat = y))
    · simp
    · obtain ⟨p, hp, he⟩ := List.any_eq_true.1 ha
      have := h p hp
      rw [of_decide_eq_true he] at this
      simp [this]
theorem u64w (a : Nat) (h : a < 9223372036854775808) : IntKind.u64.wrap (a : Int) = (a : Int) := by rw [IntKind.wrap_u64]; omega
theorem andU (a b : Nat) (ha : a < 9223372036854775808) (hb : b < 9223372036854775808) : bits .and .u64 (a : Int) (b : Int) = ((a &&& b : Nat) : Int) := by
  have hx : a &&& b < 2 ^ 63 := Nat.and_lt_two_pow _ (by omega)
  show IntKind.u64.wrap ((BitVec.ofInt 64 (a : Int) &&& BitVec.ofInt 64 (b : Int)).toNat : Int) = _
  rw [BitVec.toNat_and, ofInt64 a ha, ofInt64 b hb, IntKind.wrap_u64]
  omega
theorem orU (a b : Nat) (ha : a < 9223372036854775808) (hb : b < 9223372036854775808) : bits .or .u64 (a : Int) (b : Int) = ((a ||| b : Nat) : Int) := by
  have hx : a ||| b < 2 ^ 63 := Nat.or_lt_two_pow (by omega) (by omega)
  show IntKind.u64.wrap ((BitVec.ofInt 64 (a : Int) ||| BitVec.ofInt 64 (b : Int)).toNat : Int) = _
  rw [BitVec.toNat_or, ofInt64 a ha, ofInt64 b hb, IntKind.wrap_u64]
  omega
theorem andN_all : ∀ P : Fin 1024, ∀ x : Fin 10, bits .andNot .u64 ((P.1 : Nat) : Int) ((2 ^ x.1 : Nat) : Int) = (((P.1 ^^^ (P.1 &&& 2 ^ x.1)) : Nat) : Int) := by decide +kernel
theorem u64pow {m : Nat} (h : m ≤ 61) : IntKind.u64.wrap ((2 : Int) ^ m) = ((2 ^ m : Nat) : Int) := by
  have h1 := pow_lt62 h
  have e : (2 : Int) ^ m = ((2 ^ m : Nat) : Int) := by simp
  rw [e]
  generalize (2 ^ m : Nat) = z at *
  exact u64w z (by omega)
set_option maxHeartbeats 800000 in
theorem i_nodesOf (ys : List Int) (v : Value) (w : World) (h : RdI w v ys) (hb : Hid (∀ p ∈ ys, 0 ≤ p ∧ p ≤ 9)) (hl : ys.length ≤ 1048576) : Calls Try.prog 51 #[v] w (Ret w (.int .u64 ((mskN ys : Nat) : Int))) := by
  obtain ⟨A, c, rfl, h1, h2, hy⟩ := h.form
  have HML := hd (fun k => msk_lt (ys.take k) fun p hp => hb.out p (List.mem_of_mem_take hp))
  clear h
  go_enter Try.func51, Try.ntmps51
  go_wp2
  go_loop [3, 8] (fun a i => ∃ k : Nat, k ≤ ys.length ∧ i = .int .i64 k ∧ a = .int .u64 ((mskN (ys.take k) : Nat) : Int)) (fun _ i => ys.length - (intOf i).toNat)
  case atStart => exact ⟨0, by omega, rfl, rfl⟩
  case round =>
    obtain ⟨k, hk, rfl, rfl⟩ := hrel
    by_cases hlt : k < ys.length
    · obtain ⟨a5, rfl, hc5⟩ := RdI.at_ hy hlt
      have HT : Hid (ys.take (k + 1) = ys.take k ++ [ys[k]]) := hd (by rw [List.take_add_one, List.getElem?_eq_getElem hlt]; rfl)
      have hb5 := hb.out _ (List.getElem_mem hlt)
      have hm1 := HML.out k
      generalize ys[k] = p at *
      obtain ⟨m, rfl⟩ : ∃ m : Nat, p = (m : Int) := ⟨p.toNat, by omega⟩
      have HS : Hid (mskN (ys.take (k + 1)) = mskN (ys.take k) ||| 2 ^ m) := hd (by rw [HT.out, msk_snoc]; rfl)
      have hw := u64pow (m := m) (by omega)
      have hp2 : 2 ^ m ≤ 512 := by have := Nat.pow_le_pow_right (n := 2) (by decide) (show m ≤ 9 by omega); simpa using this
      have ho := orU (mskN (ys.take k)) (2 ^ m) (by omega) (by omega)
      rw [← HS.out] at ho
      have hm0 : (0 : Int) ≤ (m : Int) := by omega
      generalize mskN (ys.take k) = a0 at *
      generalize hT : 2 ^ m = T at *
      clear hT
      go_wp2
      go_round
      case rel => exact ⟨k + 1, by omega, by go_num, by simp⟩
      case measure => simp [intOf]; omega
    · obtain rfl : k = ys.length := by omega
      have HE : Hid (mskN (ys.take ys.length) = mskN ys) := hd (by rw [List.take_length])
      go_wp2
      go_ret
      exact Ret.mk rfl
end Go.Proofs.Ytapgpjhogdmjbaa
