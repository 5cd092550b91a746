import Derived.Test.YtbdcomkbpapcaaaCmpS
import Derived.Lib.SlicesCompact
import Derived.Lib.OwnBridge
import Derived.Sort.Walk0
import Derived.Shelf.SlSortCmp.Kit1
/-
  The order of formulas as lists of bytes, sorted lists without repetition, putting in; plain mathematics. No condition.
-/

namespace Go.Proofs.Ytbdcomkbpapcaaa
open Go.RowKit Go.Sort
abbrev Bs := List UInt8
def befB (x y : Bs) : Bool := decide (x.length < y.length) || (decide (x.length = y.length) && Op.bytesLess x y)
def cmpL (x y : Bs) : Int := orG [cmpI x.length y.length, Lib.compareBytes x y]
theorem bl_irr (x : Bs) : Op.bytesLess x x = false := by
  rw [bytesLess_eq, decide_eq_false_iff_not]; exact List.lt_irrefl x
theorem bl_trans {x y z : Bs} (h1 : Op.bytesLess x y = true) (h2 : Op.bytesLess y z = true) : Op.bytesLess x z = true := by
  rw [bytesLess_eq, decide_eq_true_eq] at *; exact List.lt_trans h1 h2
theorem bl_tot {x y : Bs} (h1 : Op.bytesLess x y = false) (h2 : Op.bytesLess y x = false) : x = y := by
  rw [bytesLess_eq, decide_eq_false_iff_not] at *
  exact List.le_antisymm (List.not_lt.1 h2) (List.not_lt.1 h1)
theorem befB_iff {x y : Bs} : befB x y = true ↔ x.length < y.length ∨ (x.length = y.length ∧ Op.bytesLess x y = true) := by simp [befB]
theorem befB_no {x y : Bs} : befB x y = false ↔ ¬ (x.length < y.length ∨ (x.length = y.length ∧ Op.bytesLess x y = true)) := by rw [← befB_iff, Bool.not_eq_true]
theorem befB_irr (x : Bs) : befB x x = false := by rw [befB_no]; simp [bl_irr]
theorem befB_trans {x y z : Bs} (h1 : befB x y = true) (h2 : befB y z = true) : befB x z = true := by
  rw [befB_iff] at *
  rcases h1 with h1 | ⟨h1, h1'⟩ <;> rcases h2 with h2 | ⟨h2, h2'⟩
  · left; omega
  · left; omega
  · left; omega
  · exact .inr ⟨by omega, bl_trans h1' h2'⟩
theorem befB_tot {x y : Bs} (h1 : befB x y = false) (h2 : befB y x = false) : x = y := by
  rw [befB_no] at h1 h2
  have e : x.length = y.length := by omega
  refine bl_tot ?_ ?_
  · cases h : Op.bytesLess x y with
    | false => rfl
    | true => exact absurd (.inr ⟨e, h⟩) h1
  · cases h : Op.bytesLess y x with
    | false => rfl
    | true => exact absurd (.inr ⟨e.symm, h⟩) h2
theorem befB_asym {x y : Bs} (h : befB x y = true) : befB y x = false := by
  cases h2 : befB y x with
  | false => rfl
  | true => have := befB_trans h h2; rw [befB_irr] at this; cases this
theorem befB_swo : SWO befB := by
  refine ⟨befB_irr, fun x y z => befB_trans, fun x y z h1 h2 => ?_⟩
  cases h : befB x z with
  | false => rfl
  | true =>
    cases h3 : befB y x with
    | true =>
      have := befB_trans h3 h; rw [this] at h2; cases h2
    | false =>
      have e := befB_tot h1 h3
      subst e; rw [h] at h2; cases h2
theorem cmpL_lt (x y : Bs) : ltOf cmpL x y = befB x y := by
  unfold ltOf cmpL befB
  rw [cmp_less]
  unfold cmpI
  by_cases h1 : x.length < y.length
  · simp [orG, h1]
  · by_cases h2 : y.length < x.length
    · have h3 : x.length ≠ y.length := by omega
      simp [orG, h1, h2, h3]
    · have h3 : x.length = y.length := by omega
      have h4 : ¬ (x.length : Int) < (y.length : Int) := by omega
      have h5 : ¬ (y.length : Int) < (x.length : Int) := by omega
      cases hb : Op.bytesLess x y with
      | true => simp [orG, h3]
      | false => cases he : x == y <;> simp [orG, h3]
theorem cmpL_ltf : ltOf cmpL = befB := by funext x y; exact cmpL_lt x y
theorem cmpL_ge (x y : Bs) : decide (0 ≤ cmpL x y) = !befB x y := by
  rw [← cmpL_lt]; unfold ltOf
  by_cases h : cmpL x y < 0
  · simp [h]
  · simp [h]; omega
/-- Strictly ascending. -/
abbrev Asc (l : List Bs) : Prop := l.Pairwise fun a b => befB a b = true
theorem asc_ext : ∀ {a b : List Bs}, Asc a → Asc b → (∀ z, z ∈ a ↔ z ∈ b) → a = b
  | [], [], _, _, _ => rfl
  | [], y :: r, _, _, h => by have := (h y).2 (by simp); simp at this
  | x :: r, [], _, _, h => by have := (h x).1 (by simp); simp at this
  | x :: r, y :: t, ha, hb, h => by
    rw [Asc, List.pairwise_cons] at ha hb
    have e : x = y := by
      have h1 := (h x).1 (by simp)
      have h2 := (h y).2 (by simp)
      rcases List.mem_cons.1 h1 with rfl | h1
      · rfl
      · rcases List.mem_cons.1 h2 with rfl | h2
        · rfl
        · have := befB_asym (hb.1 x h1); rw [ha.1 y h2] at this; cases this
    subst e
    rw [asc_ext ha.2 hb.2 fun z => ?_]
    constructor
    · intro hz
      rcases List.mem_cons.1 ((h z).1 (by simp [hz])) with rfl | hz'
      · have := ha.1 z hz; rw [befB_irr] at this; cases this
      · exact hz'
    · intro hz
      rcases List.mem_cons.1 ((h z).2 (by simp [hz])) with rfl | hz'
      · have := hb.1 z hz; rw [befB_irr] at this; cases this
      · exact hz'
theorem compUpF (d : Array Bs) (hs : ∀ i j, i ≤ j → j < d.size → befB d[j]! d[i]! = false) : ∀ m, m ≤ d.size → Asc (Go.Lib.compactUpTo d m) ∧ (∀ z, z ∈ Go.Lib.compactUpTo d m ↔ ∃ j, j < m ∧ d[j]! = z) := by
  intro m
  induction m with
  | zero => intro _; simp [Go.Lib.compactUpTo]
  | succ m ih =>
    intro hm
    obtain ⟨h1, h2⟩ := ih (by omega)
    rw [Go.Lib.compactUpTo_succ]
    cases hk : Go.Lib.keeps d m with
    | true =>
      simp only [if_true]
      refine ⟨List.pairwise_append.2 ⟨h1, by simp, fun a ha b hb => ?_⟩, fun z => ?_⟩
      · obtain rfl : b = d[m]! := by simpa using hb
        obtain ⟨j, hj, rfl⟩ := (h2 a).1 ha
        simp [Go.Lib.keeps] at hk
        rcases hk with hk | hk
        · omega
        · have a1 := hs j (m - 1) (by omega) (by omega)
          have a2 := hs (m - 1) m (by omega) (by omega)
          have hne : d[m]! ≠ d[m - 1]! := by simpa using hk
          have h3 : befB d[m - 1]! d[m]! = true := by
            cases h : befB d[m - 1]! d[m]! with
            | true => rfl
            | false => exact absurd (befB_tot a2 h) hne
          cases h : befB d[j]! d[m]! with
          | true => rfl
          | false =>
            have h4 := befB_swo.ntrans _ _ _ a1 h
            rw [h3] at h4; cases h4
      · rw [List.mem_append, h2]
        constructor
        · rintro (⟨j, hj, rfl⟩ | hz)
          · exact ⟨j, by omega, rfl⟩
          · exact ⟨m, by omega, by simpa using (List.mem_singleton.1 hz).symm⟩
        · rintro ⟨j, hj, rfl⟩
          by_cases e : j = m
          · subst e; exact .inr (by simp)
          · exact .inl ⟨j, by omega, rfl⟩
    | false =>
      simp only [Bool.false_eq_true, if_false, List.append_nil]
      refine ⟨h1, fun z => ?_⟩
      rw [h2]
      simp [Go.Lib.keeps] at hk
      obtain ⟨hk1, hk2⟩ := hk
      have hk2' : d[m]! = d[m - 1]! := by simpa using hk2
      constructor
      · rintro ⟨j, hj, rfl⟩; exact ⟨j, by omega, rfl⟩
      · rintro ⟨j, hj, rfl⟩
        by_cases e : j = m
        · subst e; exact ⟨j - 1, by omega, hk2'.symm⟩
        · exact ⟨j, by omega, rfl⟩
def leB (x y : Bs) : Bool := !befB y x
/-- Sorted, each once. -/
def sortB (xs : List Bs) : List Bs := Go.Lib.compact (xs.mergeSort leB)
theorem sortB_spec (xs : List Bs) : Asc (sortB xs) ∧ ∀ z, z ∈ sortB xs ↔ z ∈ xs := by
  have hp : (xs.mergeSort leB).Pairwise (fun x y => leB x y = true) := List.pairwise_mergeSort (fun a b c h1 h2 => by
      unfold leB at *
      have h1' : befB b a = false := by simpa using h1
      have h2' : befB c b = false := by simpa using h2
      rw [befB_swo.ntrans c b a h2' h1']; rfl) (fun a b => by
      unfold leB
      cases h : befB b a with
      | false => rfl
      | true => rw [befB_asym h]; rfl) xs
  have key := compUpF (xs.mergeSort leB).toArray (fun i j hij hj => by
    have hj' : j < (xs.mergeSort leB).length := by simpa using hj
    rw [getElem!_pos _ i (by simpa using Nat.lt_of_le_of_lt hij hj'), getElem!_pos _ j (by simpa using hj')]
    rcases Nat.lt_or_eq_of_le hij with h | h
    · have := List.pairwise_iff_getElem.1 hp i j (by omega) hj' h
      change (!befB _ _) = true at this
      simpa using this
    · subst h; exact befB_irr _) _ (Nat.le_refl _)
  refine ⟨by simpa [sortB, Go.Lib.compact] using key.1, fun z => ?_⟩
  have e : sortB xs = Go.Lib.compactUpTo (xs.mergeSort leB).toArray (xs.mergeSort leB).toArray.size := by simp [sortB, Go.Lib.compact]
  rw [e, key.2, ← List.mem_mergeSort (le := leB)]
  rw [List.mem_iff_getElem]
  constructor
  · rintro ⟨j, hj, rfl⟩
    have hj' : j < (xs.mergeSort leB).length := by simpa using hj
    exact ⟨j, hj', by rw [getElem!_pos _ j (by simpa using hj')]; simp⟩
  · rintro ⟨j, hj, rfl⟩
    exact ⟨j, by simpa using hj, by rw [getElem!_pos _ j (by simpa using hj)]; simp⟩
theorem sortB_len (xs : List Bs) : (sortB xs).length ≤ xs.length := by
  unfold sortB
  have := Lib.compact_length_le (xs.mergeSort leB)
  rw [List.length_mergeSort] at this
  exact this
/-- Put in at its place, once. -/
def putL : List Bs → Bs → List Bs
  | [], s => [s]
  | x :: r, s => if befB x s then x :: putL r s else if x = s then x :: r else s :: x :: r
theorem mem_putL {z s : Bs} : ∀ {l : List Bs}, z ∈ putL l s ↔ z = s ∨ z ∈ l
  | [] => by simp [putL]
  | x :: r => by
    unfold putL
    split
    · rw [List.mem_cons, List.mem_cons, mem_putL (l := r)]
      constructor
      · rintro (h | h | h)
        · exact .inr (.inl h)
        · exact .inl h
        · exact .inr (.inr h)
      · rintro (h | h | h)
        · exact .inr (.inl h)
        · exact .inl h
        · exact .inr (.inr h)
    · split
      · rename_i h
        subst h
        simp
      · simp
theorem putL_len (s : Bs) : ∀ l : List Bs, (putL l s).length ≤ l.length + 1
  | [] => by simp [putL]
  | x :: r => by
    have := putL_len s r
    unfold putL
    split
    · simp; omega
    · split <;> simp
theorem putL_asc {s : Bs} : ∀ {l : List Bs}, Asc l → Asc (putL l s)
  | [], _ => by simp [putL, Asc]
  | x :: r, h => by
    have h' := List.pairwise_cons.1 h
    unfold putL
    split
    · rename_i hx
      refine List.pairwise_cons.2 ⟨fun z hz => ?_, putL_asc h'.2⟩
      rcases mem_putL.1 hz with rfl | hz
      · exact hx
      · exact h'.1 z hz
    · rename_i hx
      split
      · exact h
      · rename_i hne
        have hsx : befB s x = true := by
          cases hb : befB s x with
          | true => rfl
          | false => exact absurd (befB_tot (by simpa using hx) hb) hne
        refine List.pairwise_cons.2 ⟨fun z hz => ?_, h⟩
        rcases List.mem_cons.1 hz with rfl | hz
        · exact hsx
        · exact befB_trans hsx (h'.1 z hz)
/-- How many are before. -/
def plcL : List Bs → Bs → Nat
  | [], _ => 0
  | x :: r, s => if befB x s then plcL r s + 1 else 0
theorem plcL_le (s : Bs) : ∀ l : List Bs, plcL l s ≤ l.length
  | [] => Nat.le_refl _
  | x :: r => by
    have := plcL_le s r
    unfold plcL
    split
    · simp; omega
    · simp
theorem plcL_drop (l : List Bs) (s : Bs) (k : Nat) (h : k < l.length) (hk : k ≤ plcL l s) : (befB l[k] s = true ∧ k + 1 ≤ plcL l s) ∨ (befB l[k] s = false ∧ k = plcL l s) := by
  induction l generalizing k with
  | nil => simp at h
  | cons x r ih =>
    unfold plcL at hk ⊢
    cases hx : befB x s with
    | false =>
      rw [hx, if_neg (by decide)] at hk
      obtain rfl : k = 0 := by omega
      rw [if_neg (by decide)]
      exact .inr ⟨hx, rfl⟩
    | true =>
      rw [hx, if_pos rfl] at hk
      rw [if_pos rfl]
      cases k with
      | zero => exact .inl ⟨hx, by omega⟩
      | succ k =>
        rcases ih k (by simpa using h) (by omega) with ⟨h1, h2⟩ | ⟨h1, h2⟩
        · exact .inl ⟨h1, by omega⟩
        · exact .inr ⟨h1, by omega⟩
theorem putL_eq (s : Bs) : ∀ l : List Bs, putL l s = if l[plcL l s]? = some s then l else l.take (plcL l s) ++ [s] ++ l.drop (plcL l s)
  | [] => by simp [putL, plcL]
  | x :: r => by
    have ih := putL_eq s r
    unfold putL plcL
    cases hx : befB x s with
    | true =>
      rw [if_pos rfl, if_pos rfl, ih]
      simp only [List.getElem?_cons_succ, List.take_succ_cons, List.drop_succ_cons]
      split <;> simp
    | false =>
      simp only [Bool.false_eq_true, if_false]
      by_cases he : x = s
      · subst he; simp
      · simp [he]
end Go.Proofs.Ytbdcomkbpapcaaa
