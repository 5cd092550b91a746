/-
  A number is put into an ascending list (spec.l1Put). Conditions: list lengths up to 2^20.
-/
import Derived.Test.YtgkifandgacncaaC1
import Derived.Test.YtgkifandgacncaaApp2
import Derived.Deep.DrawnRows
namespace Go.Proofs.Ytgkifandgacncaa
open Go.RowKit
def putI : List Int → Int → List Int
  | [], x => [x]
  | y :: r, x => if y < x then y :: putI r x else if y = x then y :: r else x :: y :: r
theorem putI_mem (l : List Int) (x z : Int) : z ∈ putI l x ↔ z = x ∨ z ∈ l := by
  induction l with
  | nil => simp [putI]
  | cons y r ih =>
    unfold putI
    split
    · simp [ih]
      constructor
      · rintro (h | h | h) <;> simp [h]
      · rintro (h | h | h) <;> simp [h]
    · split
      · rename_i h; subst h; simp
      · simp
def Sor : List Int → Prop
  | [] => True
  | y :: r => (∀ z ∈ r, y < z) ∧ Sor r
theorem putI_sor (l : List Int) (x : Int) (h : Sor l) : Sor (putI l x) := by
  induction l with
  | nil => exact ⟨fun z hz => by simp at hz, trivial⟩
  | cons y r ih =>
    unfold putI
    split
    · rename_i h1
      refine ⟨fun z hz => ?_, ih h.2⟩
      rcases (putI_mem _ _ _).1 hz with rfl | hz
      · exact h1
      · exact h.1 z hz
    · split
      · exact h
      · rename_i h1 h2
        refine ⟨fun z hz => ?_, h⟩
        rcases List.mem_cons.1 hz with rfl | hz
        · omega
        · have := h.1 z hz; omega
theorem putI_len (l : List Int) (x : Int) (h : Sor l) : (putI l x).length = if x ∈ l then l.length else l.length + 1 := by
  induction l with
  | nil => simp [putI]
  | cons y r ih =>
    unfold putI
    split
    · rename_i h1
      have : x ≠ y := by omega
      simp only [List.length_cons, ih h.2, List.mem_cons, this, false_or]
      split <;> rfl
    · split
      · rename_i h1 h2; subst h2; simp
      · rename_i h1 h2
        have : ¬ x ∈ y :: r := fun hx => by
          rcases List.mem_cons.1 hx with rfl | hx
          · exact h2 rfl
          · have := h.1 x hx; omega
        rw [if_neg this]; rfl
theorem putI_le (l : List Int) (x : Int) : (putI l x).length ≤ l.length + 1 := by
  induction l with
  | nil => simp [putI]
  | cons y r ih =>
    unfold putI
    split
    · simp; omega
    · split <;> simp
theorem putI_less {l : List Int} {x : Int} : ∀ {k : Nat}, (∀ y ∈ l.take k, y < x) → putI l x = l.take k ++ putI (l.drop k) x := by
  intro k
  induction k generalizing l with
  | zero => intro _; rfl
  | succ k ih =>
    intro h
    cases l with
    | nil => simp [putI]
    | cons y r =>
      have hy := h y (by simp)
      have := ih (l := r) (fun z hz => h z (by simp [hz]))
      simp only [List.take_succ_cons, List.drop_succ_cons, List.cons_append]
      rw [← this, putI, if_pos hy]
/-- Parts of a slice. -/
theorem rdI_take {w : World} {a : Addr} {n c k : Nat} {xs : List Int} (h : RdI w (.slice (some a) n c) xs) (hn : n = xs.length) (hk : k ≤ n) : RdI w (.slice (some a) k c) (xs.take k) := by
  obtain ⟨hl, A', c', hv, h1, h2, hc⟩ := h
  injection hv with e1 e2 e3
  subst e1; subst e3
  refine ⟨by simp, some a, c, by simp; omega, by simp; omega, h2, fun j u hu => ?_⟩
  have hj := (List.getElem?_eq_some_iff.1 hu).1
  simp at hj
  refine hc j u ?_
  rw [← hu]
  simp only [ints, List.getElem?_map]
  rw [List.getElem?_take_of_lt (by omega)]
theorem rdI_drop {w : World} {a : Addr} {n c k : Nat} {xs : List Int} (h : RdI w (.slice (some a) n c) xs) (hn : n = xs.length) (hk : k ≤ n) : RdI w (.slice (some (a.add k)) (n - k) (c - k)) (xs.drop k) := by
  obtain ⟨hl, A', c', hv, h1, h2, hc⟩ := h
  injection hv with e1 e2 e3
  subst e1; subst e3
  refine ⟨by simp, some (a.add k), c - k, by simp [hn], by simp; omega, by omega, fun j u hu => ⟨_, rfl, ?_⟩⟩
  have hu' : (ints xs)[k + j]? = some u := by rw [← hu]; simp [ints, List.getElem?_map, List.getElem?_drop]
  obtain ⟨a', ha', hcell⟩ := hc (k + j) u hu'
  injection ha' with ha'
  subst ha'
  have e : (a.add k).add j = a.add (k + j) := by
    unfold Addr.add
    by_cases hi : k = 0 <;> by_cases hj : j = 0 <;> simp [hi, hj, Nat.add_assoc]
  rw [e]; exact hcell
theorem rdI_dropZ {w : World} {A : Option Addr} {k c : Nat} {xs : List Int} (hk : k = xs.length) (hc : c ≤ maxLen) : RdI w (.slice A 0 c) (xs.drop k) := by
  subst hk
  rw [List.drop_eq_nil_of_le (Nat.le_refl _)]
  exact ⟨rfl, A, c, rfl, Nat.zero_le _, hc, fun j u hu => by simp [ints] at hu⟩
theorem heap_n3' (w : World) (o o' : Obj) : ((w.alloc o).alloc o').heap[w.heap.size + 1]? = some o' := by simpa using heap_n1 (w.alloc o) o'
attribute [local go_sem ↓] Go.wp_at_zero Go.wp_at_succ
end Go.Proofs.Ytgkifandgacncaa
