import Derived.Test.YtbdcomkbpapcaaaGreatMg2
import Derived.Test.YtbdcomkbpapcaaaGreatBase
/-
  The order of clauses, the place found by halving, sorted insertion: plain words. No condition.
-/
/-
  Functions of package slices that take a function: for every function value whose calls answer a given question and only draw. Conditions: list lengths up to 2^30.
-/
/-
  Numbers as bits: shifts and masks of numbers that are not negative. Conditions: below 2^62.
-/

namespace Go.Proofs.YtbdcomkbpapcaaaGreat
open Go.RowKit
def keyL (l : Int) : Int := if l < 0 then -2 * l + 1 else 2 * l
def befX : List Int → List Int → Bool
  | x :: a, y :: b => if x = y then befX a b else decide (keyL x < keyL y)
  | _, _ => false
def befL (a b : List Int) : Bool := if a.length = b.length then befX a b else decide (a.length < b.length)
/-- The place found by halving: between f and t, with so much fuel. -/
def plc (p : Nat → Bool) : Nat → Nat → Nat → Nat
  | 0, f, _ => f
  | n + 1, f, t => if f < t then (if p ((f + t) / 2) then plc p n ((f + t) / 2 + 1) t else plc p n f ((f + t) / 2)) else f
theorem plc_stop {p : Nat → Bool} {f t : Nat} (h : ¬ f < t) : ∀ n, plc p n f t = f
  | 0 => rfl
  | n + 1 => by unfold plc; rw [if_neg h]
/-- More fuel than the gap changes nothing. -/
theorem plc_fuel {p : Nat → Bool} : ∀ (n m f t : Nat), t ≤ f + n → t ≤ f + m → plc p n f t = plc p m f t
  | 0, m, f, t, h, _ => by rw [plc_stop (by omega), plc_stop (by omega)]
  | n + 1, 0, f, t, _, h => by rw [plc_stop (by omega), plc_stop (by omega)]
  | n + 1, m + 1, f, t, h1, h2 => by
    unfold plc
    split
    · split
      · exact plc_fuel n m _ _ (by omega) (by omega)
      · exact plc_fuel n m _ _ (by omega) (by omega)
    · rfl
theorem plc_yes {p : Nat → Bool} {f t : Nat} (h : f < t) (hp : p ((f + t) / 2) = true) : plc p t f t = plc p t ((f + t) / 2 + 1) t := by
  obtain ⟨n, rfl⟩ : ∃ n, t = n + 1 := ⟨t - 1, by omega⟩
  rw [show plc p (n + 1) f (n + 1) = plc p n ((f + (n + 1)) / 2 + 1) (n + 1) from by rw [plc, if_pos h, if_pos hp]]
  exact plc_fuel _ _ _ _ (by omega) (by omega)
theorem plc_no {p : Nat → Bool} {f t : Nat} (h : f < t) (hp : p ((f + t) / 2) = false) : plc p t f t = plc p ((f + t) / 2) f ((f + t) / 2) := by
  obtain ⟨n, rfl⟩ : ∃ n, t = n + 1 := ⟨t - 1, by omega⟩
  rw [show plc p (n + 1) f (n + 1) = plc p n f ((f + (n + 1)) / 2) from by rw [plc, if_pos h, if_neg (by rw [hp]; decide)]]
  exact plc_fuel _ _ _ _ (by omega) (by omega)
theorem plc_le {p : Nat → Bool} : ∀ (n f t : Nat), f ≤ t → plc p n f t ≤ t
  | 0, f, t, h => h
  | n + 1, f, t, h => by
    unfold plc
    split
    · split
      · exact plc_le n _ _ (by omega)
      · exact Nat.le_trans (plc_le n _ _ (by omega)) (by omega)
    · exact h
theorem plc_congr {p q : Nat → Bool} : ∀ (n f t : Nat), (∀ m, m < t → p m = q m) → plc p n f t = plc q n f t
  | 0, _, _, _ => rfl
  | n + 1, f, t, h => by
    unfold plc
    split
    · rw [h _ (by omega), plc_congr n _ t h, plc_congr n f _ fun m hm => h m (by omega)]
    · rfl
def plcL (xss : List (List Int)) (c : List Int) : Nat := plc (fun m => befL (xss.getD m []) c) xss.length 0 xss.length
theorem plcL_le (xss : List (List Int)) (c : List Int) : plcL xss c ≤ xss.length := plc_le _ _ _ (Nat.zero_le _)
def foundL (xss : List (List Int)) (c : List Int) : Bool := decide (plcL xss c < xss.length) && decide (xss.getD (plcL xss c) [] = c)
def insL (xss : List (List Int)) (c : List Int) : List (List Int) := if foundL xss c then xss else xss.take (plcL xss c) ++ c :: xss.drop (plcL xss c)
theorem insL_len (xss : List (List Int)) (c : List Int) : (insL xss c).length ≤ xss.length + 1 := by
  have := plcL_le xss c
  unfold insL
  split
  · omega
  · simp; omega
end Go.Proofs.YtbdcomkbpapcaaaGreat
namespace Go.Proofs.YtbdcomkbpapcaaaGreat
open Go.RowKit

/-- A call of function g enters it. -/
def Enters (g : FuncId) : Prop := ∀ (args : Array Value) (w : World), (callFunc g args).run Tryz.prog w = .ok (.enter g args) w
/-- The function value of g with captured values cs answers p, in w and whatever w has drawn. -/
def AnsQ (g : FuncId) (cs : Array Value) (p : Int → Bool) (xs : List Int) (w : World) : Prop := ∀ x ∈ xs, ∀ (n : Nat), Calls Tryz.prog g (#[.int .i64 x] ++ cs) (w.drewN n) (RetQ (w.drewN n) (.bool (p x)))
def findI (p : Int → Bool) : List Int → Int → Int
  | [], _ => -1
  | y :: r, k => if p y then k else findI p r (k + 1)
def anyI (p : Int → Bool) : List Int → Bool
  | [] => false
  | y :: r => if p y then true else anyI p r
theorem anyI_eq (p : Int → Bool) (xs : List Int) : anyI p xs = xs.any p := by
  induction xs with
  | nil => rfl
  | cons y r ih => unfold anyI; cases h : p y <;> simp [h, ih]
theorem findI_any (p : Int → Bool) (xs : List Int) : ∀ k : Int, 0 ≤ k → decide (0 ≤ findI p xs k) = anyI p xs := by
  induction xs with
  | nil => intro k _; rfl
  | cons y r ih =>
    intro k hk
    unfold findI anyI
    by_cases h : p y = true
    · rw [if_pos h, if_pos h]; simp [hk]
    · rw [if_neg h, if_neg h]; exact ih _ (by omega)
set_option maxHeartbeats 800000 in
theorem slices_IndexFunc (xs : List Int) (v : Value) (g : FuncId) (cs : Array Value) (p : Int → Bool) (w : World) (h : RdI w v xs) (hl : xs.length ≤ 1073741824) (hg : Enters g) (hp : Hid (AnsQ g cs p xs w)) :
    Calls Tryz.prog 98 #[v, .func (.func g) #[] cs] w (RetQ w (.int .i64 (findI p xs 0))) := by
  obtain ⟨A, c, rfl, h1, h2, ha⟩ := h.form
  clear h
  go_enter Tryz.func98, Tryz.ntmps98
  go_wp2
  go_loopw [8] (fun i wr => ∃ k n : Nat, k ≤ xs.length ∧ i = .int .i64 k ∧ Hid (findI p xs 0 = findI p (xs.drop k) k) ∧ wr = w.drewN n) (fun i _ => xs.length - (intOf i).toNat)
  case atStart => exact ⟨0, 0, by omega, rfl, rfl, rfl⟩
  case round =>
    obtain ⟨k, n, hk, rfl, HR, rfl⟩ := hrel
    by_cases hlt : k < xs.length
    · obtain ⟨a, rfl, hc⟩ := RdI.at_ ha hlt
      rw [drop_cons hlt] at HR
      have hm := hd (List.getElem_mem hlt)
      generalize xs[k] = y at *
      unfold Enters at hg
      obtain ⟨b, hb⟩ : ∃ b, p y = b := ⟨_, rfl⟩
      have HB := hd hb
      clear hb
      go_wp2_with fail
      refine (hp.out y hm.out n).mono ?_
      rintro e w1 ⟨rfl, m, rfl⟩
      rw [HB.out]
      cases b
      · go_wp2
        go_roundw
        case rel => exact ⟨k + 1, _, by omega, by go_num, hd (by rw [HR.out, findI, HB.out]; rfl), rfl⟩
        case measure => simp [intOf]; omega
      · go_wp2
        go_ret
        exact RetQ.mkN (by rw [HR.out, findI, HB.out]; rfl)
    · go_wp2
      go_ret
      exact RetQ.mkN (by rw [HR.out, List.drop_eq_nil_of_le (by omega)]; rfl)
end Go.Proofs.YtbdcomkbpapcaaaGreat
namespace Go.Proofs.YtbdcomkbpapcaaaGreat
open Go.RowKit

theorem pow_lt62 {m : Nat} (h : m ≤ 61) : 2 ^ m ≤ 2305843009213693952 := by
  have := Nat.pow_le_pow_right (n := 2) (by decide) h
  simpa using this
theorem wrap_pow {m : Nat} (h : m ≤ 61) : wrap64 ((2 : Int) ^ m) = ((2 ^ m : Nat) : Int) := by
  have h1 := pow_lt62 h
  have e : (2 : Int) ^ m = ((2 ^ m : Nat) : Int) := by simp
  rw [e]
  generalize (2 ^ m : Nat) = z at *
  unfold wrap64; omega
theorem or_pow {b m : Nat} (hb : b < 2305843009213693952) (h : m ≤ 60) : bits .or .i64 (b : Int) (wrap64 ((2 : Int) ^ m)) = ((b ||| 2 ^ m : Nat) : Int) := by
  have h1 := pow_lt62 (m := m) (by omega)
  rw [wrap_pow (by omega), or64 _ _ (by omega) (by omega)]
theorem or_lt {b m k : Nat} (hb : b < 2 ^ k) (h : m < k) : b ||| 2 ^ m < 2 ^ k := Nat.or_lt_two_pow hb (Nat.pow_lt_pow_right (by decide) h)
/-- The bit k of b, as the text computes it: (b >> k) & 1. -/
def bitN (b k : Nat) : Nat := b / 2 ^ k % 2
theorem bitN_lt (b k : Nat) : bitN b k < 2 := Nat.mod_lt _ (by decide)
theorem and_one (a : Nat) (ha : a < 9223372036854775808) : bits .and .i64 (a : Int) 1 = ((a % 2 : Nat) : Int) := by
  have := and64 a 1 ha (by decide)
  rw [Nat.and_one_is_mod] at this
  exact this
theorem shr_and {b k : Nat} (hb : b < 9223372036854775808) : bits .and .i64 ((b : Int) / 2 ^ k) 1 = ((bitN b k : Nat) : Int) := by
  have e : (b : Int) / 2 ^ k = ((b / 2 ^ k : Nat) : Int) := by simp
  rw [e, and_one _ (Nat.lt_of_le_of_lt (Nat.div_le_self _ _) hb)]
  rfl
end Go.Proofs.YtbdcomkbpapcaaaGreat
