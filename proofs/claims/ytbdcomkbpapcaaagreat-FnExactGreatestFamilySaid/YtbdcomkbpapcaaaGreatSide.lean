import Derived.Test.YtbdcomkbpapcaaaGreatGood
import Derived.Test.YtbdcomkbpapcaaaGreatMg5
import Derived.Test.YtbdcomkbpapcaaaGreatHoS
import Derived.Test.YtbdcomkbpapcaaaGreatMg4
/-
  The reference's sides of a formula: which variables are in left clauses, in right ones, in both. Conditions: sizes up to 2^20.
-/

namespace Go.Proofs.YtbdcomkbpapcaaaGreat
open Go.RowKit
theorem add_add' (a : Addr) (i j : Nat) : (a.add i).add j = a.add (i + j) := add_add a i j
/-- A slice and where it is cut: nil, cut at its capacity, or before. -/
theorem rdSS_cut {w : World} {A : Option Addr} {n c k : Nat} {xss : List (List Int)} (h : RdSS w (.slice A n c) xss) (hk : k ≤ xss.length) :
    (A = none ∧ xss = [] ∧ k = 0) ∨ (∃ a, A = some a ∧ c = k ∧ xss.length = k) ∨ (∃ a, A = some a ∧ k < c) := by
  obtain ⟨vs, ⟨hl, A', c', hv, h1, h2, hc⟩, hin⟩ := h
  injection hv with e1 e2 e3
  subst e1; subst e3
  cases A with
  | none =>
    refine .inl ⟨rfl, ?_⟩
    have h0 : xss.length = 0 := by
      rcases Nat.eq_zero_or_pos xss.length with h0 | h0
      · exact h0
      · obtain ⟨a, ha, _⟩ := hc 0 (vs[0]'(by omega)) (List.getElem?_eq_getElem (by omega))
        cases ha
    exact ⟨List.eq_nil_of_length_eq_zero h0, by omega⟩
  | some a =>
    by_cases e : c = k
    · exact .inr (.inl ⟨a, rfl, e, by omega⟩)
    · exact .inr (.inr ⟨a, rfl, by omega⟩)
theorem rdSS_take {w : World} {a : Addr} {n c k : Nat} {xss : List (List Int)} (h : RdSS w (.slice (some a) n c) xss) (hk : k ≤ xss.length) : RdSS w (.slice (some a) k c) (xss.take k) := by
  obtain ⟨vs, ⟨hl, A', c', hv, h1, h2, hc⟩, hin⟩ := h
  injection hv with e1 e2 e3
  subst e1; subst e3
  refine ⟨vs.take k, ⟨by simp; omega, some a, c, by simp [Nat.min_eq_left hk], by simp; omega, h2, fun j u hu => ?_⟩, fun i xs hx => ?_⟩
  · have hj := (List.getElem?_eq_some_iff.1 hu).1
    simp at hj
    exact hc j u (by rw [← hu, List.getElem?_take_of_lt (by omega)])
  · have hi := (List.getElem?_eq_some_iff.1 hx).1
    simp at hi
    rw [List.getElem?_take_of_lt (by omega)] at hx
    obtain ⟨u, hu, hr⟩ := hin i xs hx
    exact ⟨u, by rw [List.getElem?_take_of_lt (by omega)]; exact hu, hr⟩
theorem rdSS_drop {w : World} {a : Addr} {n c k : Nat} {xss : List (List Int)} (h : RdSS w (.slice (some a) n c) xss) (hk : k ≤ xss.length) : RdSS w (.slice (some (a.add k)) (xss.length - k) (c - k)) (xss.drop k) := by
  obtain ⟨vs, ⟨hl, A', c', hv, h1, h2, hc⟩, hin⟩ := h
  injection hv with e1 e2 e3
  subst e1; subst e3
  refine ⟨vs.drop k, ⟨by simp; omega, some (a.add k), c - k, by simp, by simp; omega, by omega, fun j u hu => ⟨_, rfl, ?_⟩⟩, fun i xs hx => ?_⟩
  · rw [List.getElem?_drop] at hu
    obtain ⟨a', ha', hcell⟩ := hc (k + j) u hu
    injection ha' with ha'
    subst ha'
    rw [add_add]
    exact hcell
  · rw [List.getElem?_drop] at hx
    obtain ⟨u, hu, hr⟩ := hin (k + i) xs hx
    exact ⟨u, by rw [List.getElem?_drop]; exact hu, hr⟩
theorem rdSS_dropZ {w : World} {A : Option Addr} {k c : Nat} {xss : List (List Int)} (hk : xss.length ≤ k) (hc : c ≤ maxLen) : RdSS w (.slice A 0 c) (xss.drop k) := by
  rw [List.drop_eq_nil_of_le hk]
  exact ⟨[], ⟨rfl, A, c, rfl, Nat.zero_le _, hc, fun j u hu => by simp at hu⟩, fun i xs hx => by simp at hx⟩
theorem rdSS_takeZ {w : World} {A : Option Addr} {c : Nat} {xss : List (List Int)} (hc : c ≤ maxLen) : RdSS w (.slice A 0 c) (xss.take 0) := by
  exact ⟨[], ⟨rfl, A, c, rfl, Nat.zero_le _, hc, fun j u hu => by simp at hu⟩, fun i xs hx => by simp at hx⟩
def occB (cs : List (List Int)) (l : Int) : Bool := anyL (fun c => hasI c l) cs
theorem occB_iff (cs : List (List Int)) (l : Int) : occB cs l = true ↔ ∃ c ∈ cs, l ∈ c := by
  unfold occB
  rw [anyL_eq, List.any_eq_true]
  constructor
  · rintro ⟨c, h1, h2⟩; exact ⟨c, h1, (hasI_iff _ _).1 h2⟩
  · rintro ⟨c, h1, h2⟩; exact ⟨c, h1, (hasI_iff _ _).2 h2⟩
def inS (cs : List (List Int)) (v : Int) : Bool := if occB cs v then true else occB cs (-v)
def askB (f : Cnf) (k : Int) : Bool := goodB f && inB k 0 f.cs.length
theorem ask_inv {f : Cnf} {k : Int} (h : askB f k = true) : goodB f = true ∧ ∃ j : Nat, k = j ∧ j ≤ f.cs.length := by
  unfold askB at h
  rw [Bool.and_eq_true] at h
  have := inB_iff.1 h.2
  exact ⟨h.1, k.toNat, by omega, by omega⟩
/-- The variables up to j that are in left clauses alone, in right ones alone, in both. -/
def leftV (f : Cnf) (k j : Nat) : List Int := (seqI 1 j).filter fun v => inS (f.cs.take k) v && !inS (f.cs.drop k) v
def rightV (f : Cnf) (k j : Nat) : List Int := (seqI 1 j).filter fun v => !inS (f.cs.take k) v && inS (f.cs.drop k) v
def bothV (f : Cnf) (k j : Nat) : List Int := (seqI 1 j).filter fun v => inS (f.cs.take k) v && inS (f.cs.drop k) v
theorem filt_len (p : Int → Bool) (j : Nat) : ((seqI 1 j).filter p).length ≤ j := Nat.le_trans (List.length_filter_le _ _) (by simp)
theorem filt_yes {p : Int → Bool} {j : Nat} (h : p ((j : Int) + 1) = true) : (seqI 1 (j + 1)).filter p = (seqI 1 j).filter p ++ [(j : Int) + 1] := by
  rw [seqI_snoc, List.filter_append, show (1 : Int) + (j : Int) = (j : Int) + 1 from Int.add_comm _ _]
  simp [h]
theorem filt_no {p : Int → Bool} {j : Nat} (h : p ((j : Int) + 1) = false) : (seqI 1 (j + 1)).filter p = (seqI 1 j).filter p := by
  rw [seqI_snoc, List.filter_append, show (1 : Int) + (j : Int) = (j : Int) + 1 from Int.add_comm _ _]
  simp [h]
end Go.Proofs.YtbdcomkbpapcaaaGreat
