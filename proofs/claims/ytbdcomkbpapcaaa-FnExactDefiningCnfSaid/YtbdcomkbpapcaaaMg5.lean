import Derived.Test.YtbdcomkbpapcaaaC1
import Derived.Test.YtbdcomkbpapcaaaClsG
import Derived.Test.YtbdcomkbpapcaaaMg4
/-
  spec.l2Has. Condition: list lengths up to 2^30.
-/
/-
  DefiningCnf in plain words: clauses of up to three literals, the numbers of the parts, the clauses. No condition.
-/

namespace Go.Proofs.Ytbdcomkbpapcaaa
open Go.RowKit
theorem s_l2Has (xs : List Int) (v : Value) (x : Int) (w : World) (h : RdI w v xs) (hl : xs.length ≤ 1073741824) : Calls Try.prog 113 #[v, .int .i64 x] w (Ret w (.bool (hasI xs x))) := by
  have HA := hd h
  clear h
  go_enter Try.func113, Try.ntmps113
  go_wp2_with fail
  refine (s_l1Has xs v x _ HA.out hl).mono ?_
  rintro e w1 ⟨rfl, rfl⟩
  go_wp2
  go_ret
  exact Ret.mk rfl
end Go.Proofs.Ytbdcomkbpapcaaa
namespace Go.Proofs.Ytbdcomkbpapcaaa
open Go.RowKit Go.Sort Seed
theorem sort_perm {xs ys : List Int} (hp : ys.Perm xs) (hs : ys.Pairwise fun a b => leLit a b = true) : xs.mergeSort leLit = ys := by
  refine List.Perm.eq_of_pairwise (le := fun a b => leLit a b = true) (fun a b _ _ h1 h2 => ?_) ?_ hs ((List.mergeSort_perm xs leLit).trans hp.symm)
  · unfold leLit at h1 h2
    exact litI_tot a b (by simpa using h2) (by simpa using h1)
  · refine List.pairwise_mergeSort (fun a b c h1 h2 => ?_) (fun a b => ?_) xs
    · unfold leLit at *
      have h1' : ltOf litI b a = false := by simpa using h1
      have h2' : ltOf litI c b = false := by simpa using h2
      rw [litI_swo.ntrans c b a h2' h1']; rfl
    · unfold leLit
      cases h : ltOf litI b a with
      | false => rfl
      | true =>
        have : ltOf litI a b = false := by rw [ltLit] at h; rw [ltLit_no]; omega
        rw [this]; rfl
theorem leLit_of {a b : Int} (ha : -1000 ≤ a ∧ a ≤ 1000) (hb : -1000 ≤ b ∧ b ≤ 1000) (h : absI a < absI b ∨ (absI a = absI b ∧ b ≤ a)) : leLit a b = true := by
  unfold leLit
  have : ltOf litI b a = false := by
    rw [ltLit_no, absW_eq (by omega), absW_eq (by omega)]; omega
  rw [this]; rfl
def joinO (o : Option (List Int)) (l : Int) : Option (List Int) := match o with
  | none => none
  | some a => if hasI a (-l) then none else if hasI a l then some a else some (putA a l)
/-- The clause of literals in any order, if there is one. -/
def clO (xs : List Int) : Option (List Int) := xs.foldl joinO (some [])
/-- What the program's way of sorting makes of them. -/
def ClOk (xs : List Int) : Prop := ∃ zs ys, xs.mergeSort leLit = zs ∧ Go.Lib.compact zs = ys ∧ ys.length ≤ 3 ∧ (∀ y ∈ ys, -1000 ≤ y ∧ y ≤ 1000) ∧ (match clO xs with | some c => negAdj ys = false ∧ ys = c | none => negAdj ys = true)
theorem putA_nil (a : Int) : putA [] a = [a] := rfl
theorem putA_last {c : List Int} {l : Int} (h : ∀ x ∈ c, absI x < absI l) : putA c l = c ++ [l] := by
  unfold putA
  rw [posA_eq (k := c.length) (fun y hy => h y (List.mem_of_mem_take hy)) (fun h => absurd h (Nat.lt_irrefl _)) (Nat.le_refl _)]
  simp
theorem putA_first {x l : Int} {r : List Int} (h : ¬ absI x < absI l) : putA (x :: r) l = l :: x :: r := by
  unfold putA
  rw [show posA (x :: r) l = 0 from by show (if _ then _ else _) = _; rw [if_neg h]]
  rfl
theorem hasI_no {xs : List Int} {l : Int} (h : ∀ x ∈ xs, x ≠ l) : hasI xs l = false := by
  cases hh : hasI xs l with
  | false => rfl
  | true => exact absurd rfl (h l ((hasI_iff xs l).1 hh))
theorem hasI_yes {xs : List Int} {l : Int} (h : l ∈ xs) : hasI xs l = true := (hasI_iff xs l).2 h
theorem joinO_new {c : List Int} {l : Int} (h1 : ∀ x ∈ c, x ≠ -l) (h2 : ∀ x ∈ c, x ≠ l) : joinO (some c) l = some (putA c l) := by
  unfold joinO
  simp only [hasI_no h1, hasI_no h2]
  rfl
theorem abs_ne {a b : Int} (h : absI a < absI b) : a ≠ b ∧ a ≠ -b := by
  unfold absI at h
  constructor
  · intro e; subst e; omega
  · intro e; subst e; split at h <;> split at h <;> omega
theorem clOk1 {a : Int} (ha : -1000 ≤ a ∧ a ≤ 1000) : ClOk [a] :=
  ⟨[a], [a], by simp, compact_ne (by simp), by simp, by simpa using ha, by
    have e : clO [a] = some [a] := by
      show joinO (some []) a = _
      rw [joinO_new (by simp) (by simp)]; rfl
    rw [e]
    exact ⟨rfl, rfl⟩⟩
theorem clO2 {a b : Int} (h : absI a < absI b) : clO [a, b] = some [a, b] := by
  have h1 := abs_ne h
  show joinO (joinO (some []) a) b = _
  rw [joinO_new (by simp) (by simp), putA_nil, joinO_new (by simp; exact h1.2) (by simp; exact h1.1), putA_last (by simpa using h)]
  rfl
theorem clOk2 {a b : Int} (ha : -1000 ≤ a ∧ a ≤ 1000) (hb : -1000 ≤ b ∧ b ≤ 1000) (h : absI a < absI b) : ClOk [a, b] := by
  have h1 := abs_ne h
  refine ⟨[a, b], [a, b], sort_perm (List.Perm.refl _) (by simp [leLit_of ha hb (.inl h)]), compact_ne ?_, by simp, ?_, ?_⟩
  · intro k hk
    have : k = 0 := by simp at hk; omega
    subst this
    simpa using fun e => h1.1 e.symm
  · intro y hy
    rcases List.mem_cons.1 hy with rfl | hy
    · exact ha
    · obtain rfl := List.mem_singleton.1 hy; exact hb
  · rw [clO2 h]
    refine ⟨?_, rfl⟩
    show ((b == -a) || false) = false
    have : b ≠ -a := fun e => h1.2 (by omega)
    simp [*]
theorem compact_aac {a c : Int} (h : a ≠ c) : Go.Lib.compact [a, a, c] = [a, c] := by
  have h' : ¬ c = a := fun e => h e.symm
  simp [Go.Lib.compact, Go.Lib.compactUpTo, Go.Lib.keeps, List.range_succ, List.filter_cons, h']
theorem compact3 {a b c : Int} (h1 : a ≠ b) (h2 : b ≠ c) : Go.Lib.compact [a, b, c] = [a, b, c] := by
  refine compact_ne ?_
  intro k hk
  have : k = 0 ∨ k = 1 := by simp at hk; omega
  rcases this with rfl | rfl
  · simpa using fun e => h1 e.symm
  · simpa using fun e => h2 e.symm
theorem clOk3 {a b c : Int} (ha : -1000 ≤ a ∧ a ≤ 1000) (hb : -1000 ≤ b ∧ b ≤ 1000) (hc : -1000 ≤ c ∧ c ≤ 1000) (hac : absI a < absI c) (hbc : absI b < absI c) (h0 : a ≠ 0) : ClOk [a, b, c] := by
  have a1 := abs_ne hac
  have b1 := abs_ne hbc
  have hall : ∀ y, y = a ∨ y = b ∨ y = c → -1000 ≤ y ∧ y ≤ 1000 := by rintro y (rfl | rfl | rfl) <;> assumption
  have s1 : clO [a, b, c] = joinO (joinO (some [a]) b) c := by
    show joinO (joinO (joinO (some []) a) b) c = _
    rw [joinO_new (by simp) (by simp), putA_nil]
  rcases Int.lt_trichotomy (absI a) (absI b) with h | h | h
  · have h1 := abs_ne h
    have e : clO [a, b, c] = some [a, b, c] := by
      rw [s1, joinO_new (by simp; exact h1.2) (by simp; exact h1.1), putA_last (by simpa using h)]
      show joinO (some [a, b]) c = _
      rw [joinO_new (by simp; exact ⟨a1.2, b1.2⟩) (by simp; exact ⟨a1.1, b1.1⟩), putA_last (by simp; exact ⟨hac, hbc⟩)]
      rfl
    refine ⟨[a, b, c], [a, b, c], sort_perm (List.Perm.refl _) (by simp [leLit_of ha hb (.inl h), leLit_of ha hc (.inl hac), leLit_of hb hc (.inl hbc)]), compact3 h1.1 b1.1, by simp, (fun y hy => hall y (by simpa using hy)), ?_⟩
    rw [e]
    refine ⟨?_, rfl⟩
    show ((b == -a) || ((c == -b) || false)) = false
    have : b ≠ -a := fun e => h1.2 (by omega)
    have : c ≠ -b := fun e => b1.2 (by omega)
    simp [*]
  · by_cases hab : a = b
    · subst hab
      have e : clO [a, a, c] = some [a, c] := by
        rw [s1]
        have : joinO (some [a]) a = some [a] := by
          unfold joinO
          simp only [hasI_no (show ∀ x ∈ [a], x ≠ -a by simp; omega), hasI_yes (show a ∈ [a] by simp)]
          rfl
        rw [this, joinO_new (by simp; exact a1.2) (by simp; exact a1.1), putA_last (by simpa using hac)]
        rfl
      refine ⟨[a, a, c], [a, c], sort_perm (List.Perm.refl _) (by simp [leLit_of ha ha (.inr ⟨rfl, Int.le_refl _⟩), leLit_of ha hc (.inl hac)]), compact_aac a1.1, by simp, (fun y hy => hall y (by rcases List.mem_cons.1 hy with h | h; exact .inl h; exact .inr (.inr (List.mem_singleton.1 h)))), ?_⟩
      rw [e]
      refine ⟨?_, rfl⟩
      show ((c == -a) || false) = false
      have : c ≠ -a := fun e => a1.2 (by omega)
      simp [*]
    · have hneg : b = -a := by
        unfold absI at h
        split at h <;> split at h <;> omega
      subst hneg
      have e : clO [a, -a, c] = none := by
        rw [s1]
        have : joinO (some [a]) (-a) = none := by
          unfold joinO
          simp only [hasI_yes (show - -a ∈ [a] by simp)]
          rfl
        rw [this]
        rfl
      by_cases hpos : 0 < a
      · refine ⟨[a, -a, c], [a, -a, c], sort_perm (List.Perm.refl _) (by simp [leLit_of ha hb (.inr ⟨h, by omega⟩), leLit_of ha hc (.inl hac), leLit_of hb hc (.inl hbc)]), compact3 hab b1.1, by simp, (fun y hy => hall y (by simpa using hy)), ?_⟩
        rw [e]
        show ((-a == -a) || _) = true
        simp
      · refine ⟨[-a, a, c], [-a, a, c], sort_perm (List.Perm.swap _ _ _) (by simp [leLit_of hb ha (.inr ⟨h.symm, by omega⟩), leLit_of ha hc (.inl hac), leLit_of hb hc (.inl hbc)]), compact3 (fun e => hab e.symm) a1.1, by simp, (fun y hy => hall y (by simp at hy; rcases hy with h | h | h; exact .inr (.inl h); exact .inl h; exact .inr (.inr h))), ?_⟩
        rw [e]
        show ((a == - -a) || _) = true
        simp
  · have h1 := abs_ne h
    have e : clO [a, b, c] = some [b, a, c] := by
      rw [s1, joinO_new (by simp; omega) (by simp; exact fun e => h1.1 e.symm), putA_first (by omega)]
      show joinO (some [b, a]) c = _
      rw [joinO_new (by simp; exact ⟨b1.2, a1.2⟩) (by simp; exact ⟨b1.1, a1.1⟩), putA_last (by simp; exact ⟨hbc, hac⟩)]
      rfl
    refine ⟨[b, a, c], [b, a, c], sort_perm (List.Perm.swap _ _ _) (by simp [leLit_of hb ha (.inl h), leLit_of ha hc (.inl hac), leLit_of hb hc (.inl hbc)]), compact3 h1.1 a1.1, by simp, (fun y hy => hall y (by simp at hy; rcases hy with h | h | h; exact .inr (.inl h); exact .inl h; exact .inr (.inr h))), ?_⟩
    rw [e]
    refine ⟨?_, rfl⟩
    show ((a == -b) || ((c == -a) || false)) = false
    have : a ≠ -b := fun e => h1.2 (by omega)
    have : c ≠ -a := fun e => a1.2 (by omega)
    simp [*]
end Go.Proofs.Ytbdcomkbpapcaaa
