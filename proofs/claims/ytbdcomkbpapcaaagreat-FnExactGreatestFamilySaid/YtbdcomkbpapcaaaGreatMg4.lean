import Derived.Test.YtbdcomkbpapcaaaGreatMg2
import Derived.Test.YtbdcomkbpapcaaaGreatApp2
import Derived.Deep.DrawnRows
import Derived.Lib.SlicesCompact
/-
  A number is put into an ascending list (spec.l1Put). Conditions: list lengths up to 2^20.
-/
/-
  Sorting and compacting a list of numbers, as plain mathematics. No condition.
-/

namespace Go.Proofs.YtbdcomkbpapcaaaGreat
open Go.RowKit
def putI : List Int → Int → List Int
  | [], x => [x]
  | y :: r, x => if y < x then y :: putI r x else if y = x then y :: r else x :: y :: r
theorem putI_mem (l : List Int) (x z : Int) : z ∈ putI l x ↔ z = x ∨ z ∈ l := by
  induction l with
  | nil => simp [putI]
  | cons y r ih =>
    unfold putI
    split
    · simp [ih]
      constructor
      · rintro (h | h | h) <;> simp [h]
      · rintro (h | h | h) <;> simp [h]
    · split
      · rename_i h; subst h; simp
      · simp
def Sor : List Int → Prop
  | [] => True
  | y :: r => (∀ z ∈ r, y < z) ∧ Sor r
theorem putI_sor (l : List Int) (x : Int) (h : Sor l) : Sor (putI l x) := by
  induction l with
  | nil => exact ⟨fun z hz => by simp at hz, trivial⟩
  | cons y r ih =>
    unfold putI
    split
    · rename_i h1
      refine ⟨fun z hz => ?_, ih h.2⟩
      rcases (putI_mem _ _ _).1 hz with rfl | hz
      · exact h1
      · exact h.1 z hz
    · split
      · exact h
      · rename_i h1 h2
        refine ⟨fun z hz => ?_, h⟩
        rcases List.mem_cons.1 hz with rfl | hz
        · omega
        · have := h.1 z hz; omega
theorem putI_len (l : List Int) (x : Int) (h : Sor l) : (putI l x).length = if x ∈ l then l.length else l.length + 1 := by
  induction l with
  | nil => simp [putI]
  | cons y r ih =>
    unfold putI
    split
    · rename_i h1
      have : x ≠ y := by omega
      simp only [List.length_cons, ih h.2, List.mem_cons, this, false_or]
      split <;> rfl
    · split
      · rename_i h1 h2; subst h2; simp
      · rename_i h1 h2
        have : ¬ x ∈ y :: r := fun hx => by
          rcases List.mem_cons.1 hx with rfl | hx
          · exact h2 rfl
          · have := h.1 x hx; omega
        rw [if_neg this]; rfl
theorem putI_le (l : List Int) (x : Int) : (putI l x).length ≤ l.length + 1 := by
  induction l with
  | nil => simp [putI]
  | cons y r ih =>
    unfold putI
    split
    · simp; omega
    · split <;> simp
theorem putI_less {l : List Int} {x : Int} : ∀ {k : Nat}, (∀ y ∈ l.take k, y < x) → putI l x = l.take k ++ putI (l.drop k) x := by
  intro k
  induction k generalizing l with
  | zero => intro _; rfl
  | succ k ih =>
    intro h
    cases l with
    | nil => simp [putI]
    | cons y r =>
      have hy := h y (by simp)
      have := ih (l := r) (fun z hz => h z (by simp [hz]))
      simp only [List.take_succ_cons, List.drop_succ_cons, List.cons_append]
      rw [← this, putI, if_pos hy]
/-- Parts of a slice. -/
theorem rdI_take {w : World} {a : Addr} {n c k : Nat} {xs : List Int} (h : RdI w (.slice (some a) n c) xs) (hn : n = xs.length) (hk : k ≤ n) : RdI w (.slice (some a) k c) (xs.take k) := by
  obtain ⟨hl, A', c', hv, h1, h2, hc⟩ := h
  injection hv with e1 e2 e3
  subst e1; subst e3
  refine ⟨by simp, some a, c, by simp; omega, by simp; omega, h2, fun j u hu => ?_⟩
  have hj := (List.getElem?_eq_some_iff.1 hu).1
  simp at hj
  refine hc j u ?_
  rw [← hu]
  simp only [ints, List.getElem?_map]
  rw [List.getElem?_take_of_lt (by omega)]
theorem rdI_drop {w : World} {a : Addr} {n c k : Nat} {xs : List Int} (h : RdI w (.slice (some a) n c) xs) (hn : n = xs.length) (hk : k ≤ n) : RdI w (.slice (some (a.add k)) (n - k) (c - k)) (xs.drop k) := by
  obtain ⟨hl, A', c', hv, h1, h2, hc⟩ := h
  injection hv with e1 e2 e3
  subst e1; subst e3
  refine ⟨by simp, some (a.add k), c - k, by simp [hn], by simp; omega, by omega, fun j u hu => ⟨_, rfl, ?_⟩⟩
  have hu' : (ints xs)[k + j]? = some u := by rw [← hu]; simp [ints, List.getElem?_map, List.getElem?_drop]
  obtain ⟨a', ha', hcell⟩ := hc (k + j) u hu'
  injection ha' with ha'
  subst ha'
  have e : (a.add k).add j = a.add (k + j) := by
    unfold Addr.add
    by_cases hi : k = 0 <;> by_cases hj : j = 0 <;> simp [hi, hj, Nat.add_assoc]
  rw [e]; exact hcell
theorem rdI_dropZ {w : World} {A : Option Addr} {k c : Nat} {xs : List Int} (hk : k = xs.length) (hc : c ≤ maxLen) : RdI w (.slice A 0 c) (xs.drop k) := by
  subst hk
  rw [List.drop_eq_nil_of_le (Nat.le_refl _)]
  exact ⟨rfl, A, c, rfl, Nat.zero_le _, hc, fun j u hu => by simp [ints] at hu⟩
theorem heap_n3' (w : World) (o o' : Obj) : ((w.alloc o).alloc o').heap[w.heap.size + 1]? = some o' := by simpa using heap_n1 (w.alloc o) o'
attribute [local go_sem ↓] Go.wp_at_zero Go.wp_at_succ
end Go.Proofs.YtbdcomkbpapcaaaGreat
namespace Go.Proofs.YtbdcomkbpapcaaaGreat
open Go.RowKit
theorem sor_pair : ∀ {l : List Int}, l.Pairwise (· < ·) → Sor l
  | [], _ => trivial
  | _ :: _, h => ⟨fun _ hz => (List.pairwise_cons.1 h).1 _ hz, sor_pair (List.pairwise_cons.1 h).2⟩
theorem sor_ext : ∀ {a b : List Int}, Sor a → Sor b → (∀ z, z ∈ a ↔ z ∈ b) → a = b
  | [], [], _, _, _ => rfl
  | [], y :: r, _, _, h => by have := (h y).2 (by simp); simp at this
  | x :: r, [], _, _, h => by have := (h x).1 (by simp); simp at this
  | x :: r, y :: t, ha, hb, h => by
    have e : x = y := by
      have h1 := (h x).1 (by simp)
      have h2 := (h y).2 (by simp)
      rcases List.mem_cons.1 h1 with rfl | h1
      · rfl
      · rcases List.mem_cons.1 h2 with rfl | h2
        · rfl
        · have := hb.1 x h1; have := ha.1 y h2; omega
    subst e
    rw [sor_ext ha.2 hb.2 fun z => ?_]
    constructor
    · intro hz
      rcases List.mem_cons.1 ((h z).1 (by simp [hz])) with rfl | hz'
      · have := ha.1 z hz; omega
      · exact hz'
    · intro hz
      rcases List.mem_cons.1 ((h z).2 (by simp [hz])) with rfl | hz'
      · have := hb.1 z hz; omega
      · exact hz'
theorem compUp (d : Array Int) (hs : ∀ i j, i ≤ j → j < d.size → d[i]! ≤ d[j]!) : ∀ m, m ≤ d.size → (Go.Lib.compactUpTo d m).Pairwise (· < ·) ∧ (∀ z, z ∈ Go.Lib.compactUpTo d m ↔ ∃ j, j < m ∧ d[j]! = z) := by
  intro m
  induction m with
  | zero => intro _; simp [Go.Lib.compactUpTo]
  | succ m ih =>
    intro hm
    obtain ⟨h1, h2⟩ := ih (by omega)
    rw [Go.Lib.compactUpTo_succ]
    cases hk : Go.Lib.keeps d m with
    | true =>
      simp only [if_true]
      refine ⟨List.pairwise_append.2 ⟨h1, by simp, fun a ha b hb => ?_⟩, fun z => ?_⟩
      · obtain rfl : b = d[m]! := by simpa using hb
        obtain ⟨j, hj, rfl⟩ := (h2 a).1 ha
        simp [Go.Lib.keeps] at hk
        rcases hk with hk | hk
        · omega
        · have a1 := hs j (m - 1) (by omega) (by omega)
          have a2 := hs (m - 1) m (by omega) (by omega)
          have : d[m]! ≠ d[m - 1]! := by simpa using hk
          omega
      · rw [List.mem_append, h2]
        constructor
        · rintro (⟨j, hj, rfl⟩ | hz)
          · exact ⟨j, by omega, rfl⟩
          · exact ⟨m, by omega, by simpa using (List.mem_singleton.1 hz).symm⟩
        · rintro ⟨j, hj, rfl⟩
          by_cases e : j = m
          · subst e; exact .inr (by simp)
          · exact .inl ⟨j, by omega, rfl⟩
    | false =>
      simp only [Bool.false_eq_true, if_false, List.append_nil]
      refine ⟨h1, fun z => ?_⟩
      rw [h2]
      simp [Go.Lib.keeps] at hk
      obtain ⟨hk1, hk2⟩ := hk
      have hk2' : d[m]! = d[m - 1]! := by simpa using hk2
      constructor
      · rintro ⟨j, hj, rfl⟩; exact ⟨j, by omega, rfl⟩
      · rintro ⟨j, hj, rfl⟩
        by_cases e : j = m
        · subst e; exact ⟨j - 1, by omega, hk2'.symm⟩
        · exact ⟨j, by omega, rfl⟩
def sortU (xs : List Int) : List Int := Go.Lib.compact (xs.mergeSort fun x y => decide (x ≤ y))
theorem sortU_spec (xs : List Int) : Sor (sortU xs) ∧ ∀ z, z ∈ sortU xs ↔ z ∈ xs := by
  have hp : (xs.mergeSort fun x y => decide (x ≤ y)).Pairwise (fun x y => decide (x ≤ y) = true) := List.pairwise_mergeSort (by intro a b c; simp; omega) (by intro a b; simp; omega) xs
  have key := compUp (xs.mergeSort fun x y => decide (x ≤ y)).toArray (fun i j hij hj => by
    have hj' : j < (xs.mergeSort fun x y => decide (x ≤ y)).length := by simpa using hj
    rw [getElem!_pos _ i (by simpa using Nat.lt_of_le_of_lt hij hj'), getElem!_pos _ j (by simpa using hj')]
    rcases Nat.lt_or_eq_of_le hij with h | h
    · have := List.pairwise_iff_getElem.1 hp i j (by omega) hj' h
      simpa using this
    · subst h; exact Int.le_refl _) _ (Nat.le_refl _)
  refine ⟨sor_pair (by simpa [sortU, Go.Lib.compact] using key.1), fun z => ?_⟩
  have e : sortU xs = Go.Lib.compactUpTo (xs.mergeSort fun x y => decide (x ≤ y)).toArray (xs.mergeSort fun x y => decide (x ≤ y)).toArray.size := by simp [sortU, Go.Lib.compact]
  rw [e, key.2, ← List.mem_mergeSort (le := fun x y => decide (x ≤ y))]
  rw [List.mem_iff_getElem]
  constructor
  · rintro ⟨j, hj, rfl⟩
    have hj' : j < (xs.mergeSort fun x y => decide (x ≤ y)).length := by simpa using hj
    exact ⟨j, hj', by rw [getElem!_pos _ j (by simpa using hj')]; simp⟩
  · rintro ⟨j, hj, rfl⟩
    exact ⟨j, by simpa using hj, by rw [getElem!_pos _ j (by simpa using hj)]; simp⟩
theorem sor_filter {p : Int → Bool} : ∀ {l : List Int}, Sor l → Sor (l.filter p)
  | [], _ => trivial
  | y :: r, h => by
    rw [List.filter_cons]
    split
    · exact ⟨fun z hz => h.1 z (List.mem_filter.1 hz).1, sor_filter h.2⟩
    · exact sor_filter h.2
theorem sor_seqI (k0 : Int) (n : Nat) : Sor (seqI k0 n) := by
  refine sor_pair (List.pairwise_map.2 ?_)
  exact List.pairwise_lt_range.imp fun h => by omega
theorem mem_seqI {k0 z : Int} {n : Nat} : z ∈ seqI k0 n ↔ k0 ≤ z ∧ z < k0 + n := by
  unfold seqI
  rw [List.mem_map]
  constructor
  · rintro ⟨j, hj, rfl⟩; have := List.mem_range.1 hj; omega
  · rintro ⟨h1, h2⟩; exact ⟨(z - k0).toNat, List.mem_range.2 (by omega), by omega⟩
theorem foldP_sor : ∀ (ks P : List Int), Sor P → Sor (ks.foldl putI P)
  | [], _, h => h
  | x :: r, P, h => foldP_sor r _ (putI_sor P x h)
theorem foldP_mem : ∀ (ks P : List Int) (z : Int), z ∈ ks.foldl putI P ↔ z ∈ P ∨ z ∈ ks
  | [], P, z => by simp
  | x :: r, P, z => by
    rw [List.foldl_cons, foldP_mem r, putI_mem, List.mem_cons]
    constructor
    · rintro ((rfl | h) | h)
      · exact .inr (.inl rfl)
      · exact .inl h
      · exact .inr (.inr h)
    · rintro (h | rfl | h)
      · exact .inl (.inr h)
      · exact .inl (.inl rfl)
      · exact .inr h
/-- Putting numbers one by one in their places is sorting and compacting. -/
theorem foldP_sortU (ks : List Int) : ks.foldl putI [] = sortU ks :=
  sor_ext (foldP_sor ks [] trivial) (sortU_spec ks).1 fun z => by rw [foldP_mem, (sortU_spec ks).2]; simp
theorem sortU_len (ks : List Int) : (sortU ks).length ≤ ks.length := by
  rw [← foldP_sortU]
  have : ∀ (ks P : List Int), (ks.foldl putI P).length ≤ P.length + ks.length := by
    intro ks
    induction ks with
    | nil => intro P; simp
    | cons x r ih => intro P; rw [List.foldl_cons]; have := ih (putI P x); have := putI_le P x; simp; omega
  have := this ks []
  simpa using this
end Go.Proofs.YtbdcomkbpapcaaaGreat
