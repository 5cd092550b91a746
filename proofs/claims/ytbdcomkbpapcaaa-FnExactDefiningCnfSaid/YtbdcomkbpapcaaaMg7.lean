import Derived.Test.YtbdcomkbpapcaaaMg6
import Derived.Test.YtbdcomkbpapcaaaSortF
import Derived.Shelf.SlSortCmp.NoneTotal
import Derived.Test.YtbdcomkbpapcaaaFrame
import Derived.Test.YtbdcomkbpapcaaaC1
import Derived.Laws.EntriesVeiled
import Derived.Test.YtbdcomkbpapcaaaFmN
/-
  Sorting slices of formulas. Condition: sizes up to 2^20.
-/
/-
  Lists of formulas in the program: IsFormula, IndexFunc and ContainsFunc over strings, Concat, with, sides. Condition: sizes up to 2^20.
-/
/-
  The laws' helpers on slices of strings: measure, copy; the reading of such an argument. Conditions: sizes up to 2^20.
-/
/-
  FollowsFrom and CounterOf, the program's side. Condition: at most 2^20 given texts.
-/
/-
  FollowsFrom and CounterOf, the reference's side. Condition: at most 2^20 given texts.
-/

namespace Go.Proofs.Ytbdcomkbpapcaaa
open Go.RowKit Go.Sort
end Go.Proofs.Ytbdcomkbpapcaaa
namespace Go.Proofs.Ytbdcomkbpapcaaa
open Go.RowKit Go.Sort
/-- The function value of g with captured values cs answers p of a string, in w and whatever extends w. -/
def AnsF (g : FuncId) (cs : Array Value) (p : Bs → Bool) (xs : List Bs) (w : World) : Prop := ∀ x ∈ xs, ∀ (w' : World), Ext w w' → Calls Try.prog g (#[.string ⟨x.toArray⟩] ++ cs) w' (RetX w' (.bool (p x)))
def findF (p : Bs → Bool) : List Bs → Int → Int
  | [], _ => -1
  | x :: r, k => if p x then k else findF p r (k + 1)
theorem findF_any (p : Bs → Bool) (xs : List Bs) : ∀ k : Int, 0 ≤ k → decide (0 ≤ findF p xs k) = xs.any p := by
  induction xs with
  | nil => intro k _; rfl
  | cons x r ih =>
    intro k hk
    unfold findF
    rw [List.any_cons]
    cases p x
    · simpa using ih (k + 1) (by omega)
    · simpa using hk
theorem blk2S {w : World} {b : Nat} {x y : Value} {e : TypeId} (h : w.heap[b]? = some (.cells #[x, y] e)) : w.cell? ⟨b, 0, none⟩ = some x ∧ w.cell? ⟨b, 1, none⟩ = some y := by simp [World.cell?, h]
theorem own_zero (W : World) {e : TypeId} (cs : Array Value) (cap : Nat) {base : Nat} (hc : cs.size = cap) (hm : cap ≤ maxLen) (hb : base ≤ W.heap.size) : Own (W.alloc (.cells cs e)) base e 1 (.slice (some ⟨W.heap.size, 0, none⟩) 0 cap) 0 [] :=
  ⟨rfl, .inr ⟨W.heap.size, cap, cs, rfl, hb, heap_alloc_new W _, Nat.zero_le _, hm, by rw [hc, Nat.mul_one], by simp⟩⟩
end Go.Proofs.Ytbdcomkbpapcaaa
namespace Go.Proofs.Ytbdcomkbpapcaaa
open Go.RowKit
def I64_StringS (xs : List (List UInt8)) : Prop := ∀ x ∈ xs, x.length ≤ 9223372036854775807
def szSgo : List (List UInt8) → Int → Int
  | [], left => left
  | x :: r, left => if left - (x.length : Int) < 0 then -1 else szSgo r (left - x.length)
def sz_StringS (xs : List (List UInt8)) (left : Int) : Int := if left - (xs.length : Int) < 0 then -1 else szSgo xs (left - xs.length)
theorem szSgo_bd (xs : List (List UInt8)) : ∀ left : Int, -1 ≤ left → left ≤ 1048576 → -1 ≤ szSgo xs left ∧ szSgo xs left ≤ 1048576 := by
  induction xs with
  | nil => intro left h1 h2; exact ⟨h1, h2⟩
  | cons r rs ih =>
    intro left h1 h2
    unfold szSgo
    split
    · omega
    · exact ih _ (by omega) (by omega)
theorem sz_StringS_bd (xs : List (List UInt8)) (left : Int) (h : left ≤ 1048576) : -1 ≤ sz_StringS xs left ∧ sz_StringS xs left ≤ 1048576 := by
  unfold sz_StringS
  split
  · omega
  · exact szSgo_bd _ _ (by omega) (by omega)
theorem sz_StringS_ok {xs : List (List UInt8)} {left : Int} (h : ¬ sz_StringS xs left < 0) (hl : left ≤ 1048576) : Bd_StringS xs := by
  unfold sz_StringS at h
  unfold Bd_StringS
  split at h
  · omega
  · omega
theorem list_strs {cs : List Value} (h : ∀ u ∈ cs, ∃ s : ByteArray, u = Value.string s ∧ s.size ≤ 9223372036854775807) : ∃ xs : List (List UInt8), cs = strs xs ∧ I64_StringS xs := by
  induction cs with
  | nil => exact ⟨[], rfl, fun x hx => by cases hx⟩
  | cons u cs ih =>
    obtain ⟨xs, rfl, hx⟩ := ih fun u hu => h u (List.mem_cons_of_mem _ hu)
    obtain ⟨s, rfl, hs⟩ := h u (List.mem_cons_self ..)
    refine ⟨s.data.toList :: xs, ?_, fun x hx' => ?_⟩
    · show _ = encStr s.data.toList :: strs xs
      rw [enc_of]
    · rcases List.mem_cons.1 hx' with rfl | hx'
      · simpa using hs
      · exact hx x hx'
section
open Go.ChangeShapes Go.WideShapes Go.ChangeAt Go.Deep Go.Joins
variable {H : Type} {enc : TypeId × Value → H} {P : Program} {W : World} {base : Nat} {spare : Nat → Bool} {held : Bool}
theorem read_strings {t e : TypeId} {fuel : Nat} {v : Value} {x : DataW H × List MemPlace} (ht : P.underlying t = some (.slice e)) (he : P.underlying e = some .string) (hc : P.cellsOf e = 1) (h : DataW.trod enc P W base spare held fuel t [v] = some x) :
    ∃ xs, Rd_StringS W v xs ∧ I64_StringS xs := by
  obtain ⟨cs, hr, hu⟩ := read_slice1 ht hc h
  obtain ⟨xs, rfl, hx⟩ := list_strs (cs := cs) fun u h => by
    obtain ⟨n, y, hy⟩ := hu u h
    obtain ⟨s, hz, _, hw⟩ := DataW.trod_string he hy
    injection hz with hz
    exact ⟨s, hz, by unfold maxLen at hw; omega⟩
  exact ⟨xs, by simpa [Rd_StringS] using hr, hx⟩
end
end Go.Proofs.Ytbdcomkbpapcaaa
namespace Go.Proofs.Ytbdcomkbpapcaaa
open Go.RowKit Go.Sort
/-! ### Plain words -/
def okT (x : Bs) : Bool := isF ⟨x.toArray⟩
def fmOf (x : Bs) : Fm := (goodF ⟨x.toArray⟩).getD (.leaf 48)
def valS (b : Nat) (x : Bs) : Bool := valF b (fmOf x)
theorem okT_of {x : Bs} (h : okT x = true) : goodF ⟨x.toArray⟩ = some (fmOf x) ∧ x = txt (fmOf x) ∧ WfF (fmOf x) = true ∧ (txt (fmOf x)).length ≤ 80 := by
  unfold okT isF at h
  obtain ⟨f, hf⟩ := Option.isSome_iff_exists.1 h
  have e : fmOf x = f := by unfold fmOf; rw [hf]; rfl
  obtain ⟨h1, h2, h3⟩ := goodF_iff.1 hf
  have h2 : x = txt f := h2
  rw [e]
  refine ⟨hf, h2, h3, ?_⟩
  rw [← h2]
  simpa [ByteArray.size] using h1
def givenB (xs : List Bs) : Bool := decide (xs.length ≤ 6) && xs.all okT
/-- A sequent of a left side and a formula holds for bits. -/
def holdsB (b : Nat) (L : List Bs) (s : Bs) : Bool := L.any (fun x => !valS b x) || valS b s
/-- The first number from k on, of n, for which p is false, or -1. -/
def firstF (p : Nat → Bool) : Nat → Nat → Int
  | 0, _ => -1
  | n + 1, k => if p k then firstF p n (k + 1) else k
def cntV (L : List Bs) (s : Bs) : Int := firstF (fun b => holdsB b L s) 64 0
theorem firstF_bd (p : Nat → Bool) : ∀ n k, -1 ≤ firstF p n k ∧ firstF p n k ≤ k + n
  | 0, k => by unfold firstF; omega
  | n + 1, k => by
    have := firstF_bd p n (k + 1)
    unfold firstF
    split <;> omega
theorem cntV_bd (L : List Bs) (s : Bs) : -1 ≤ cntV L s ∧ cntV L s ≤ 64 := by have := firstF_bd (fun b => holdsB b L s) 64 0; unfold cntV; omega
theorem cntV_congr {L L' : List Bs} (s : Bs) (h : ∀ x, x ∈ L ↔ x ∈ L') : cntV L s = cntV L' s := by
  have e : ∀ b, holdsB b L s = holdsB b L' s := fun b => by
    unfold holdsB
    congr 1
    rw [Bool.eq_iff_iff, List.any_eq_true, List.any_eq_true]
    exact ⟨fun ⟨x, hx, hv⟩ => ⟨x, (h x).1 hx, hv⟩, fun ⟨x, hx, hv⟩ => ⟨x, (h x).2 hx, hv⟩⟩
  unfold cntV
  rw [show (fun b => holdsB b L s) = fun b => holdsB b L' s from funext e]
theorem cell_box {w : World} {b : Nat} {x : Value} {e : TypeId} (h : w.heap[b]? = some (.cells #[x] e)) : w.cell? ⟨b, 0, none⟩ = some x := by simp [World.cell?, h]
section
variable {w : World} {b : Nat} {x y u v : Value} {e : TypeId}
theorem blk2fS (h : w.heap[b]? = some (.cells #[x, y] e)) : w.frozen? ⟨b, 0, none⟩ = false ∧ w.frozen? ⟨b, 1, none⟩ = false := by simp [World.frozen?, h]
theorem blk2setS (h : w.heap[b]? = some (.cells #[x, y] e)) : ((w.setCell ⟨b, 0, none⟩ u).setCell ⟨b, 1, none⟩ v).heap[b]? = some (.cells #[u, v] e) := by simp [World.setCell, Array.getElem?_modify, h]
theorem blkltS {o : Obj} (h : w.heap[b]? = some o) : b < w.heap.size := (Array.getElem?_eq_some_iff.1 h).1
theorem blkoldS {o o' : Obj} (h : w.heap[b]? = some o) : (w.alloc o').heap[b]? = some o := (Below.heap_alloc w o' b (Array.getElem?_eq_some_iff.1 h).1).trans h
end
def askB (xs : List Bs) (s : ByteArray) : Bool := givenB xs && isF s
def followV (xs : List Bs) (s : ByteArray) : Bool := if askB xs s then decide (cntV xs s.data.toList < 0) else false
def counterB (xs : List Bs) (s : ByteArray) : Bool := askB xs s && decide (0 ≤ cntV xs s.data.toList)
def counterN (xs : List Bs) (s : ByteArray) : Int := if counterB xs s then cntV xs s.data.toList else 0
theorem okT_list {s : ByteArray} : okT s.data.toList = isF s := by unfold okT; congr 1
/-- A call returns a sequent with a left side and one formula. -/
def RetSq (w : World) (L : List Bs) (s : Bs) : Ending → World → Prop := fun e w' => ∃ lv rv, e = .returned (.agg #[lv, rv]) ∧ OwnS w' w.heap.size lv L ∧ OwnS w' w.heap.size rv [s] ∧ Ext w w'
/-! ### The walks -/
end Go.Proofs.Ytbdcomkbpapcaaa
namespace Go.Proofs.Ytbdcomkbpapcaaa
open Go.RowKit Go.Sort
theorem rxv {P : Program} {g : FuncId} {args : Array Value} {w : World} {v v' : Value} (h : Calls P g args w (RetX w v)) (e : Hid (v = v')) : Calls P g args w (RetX w v') := by have := e.out; subst this; exact h
/-- The given formulas as a side. -/
def sideB (xs : List Bs) : List Bs := xs.foldl putL []
theorem sideB_snoc (xs : List Bs) (k : Nat) (h : k < xs.length) : sideB (xs.take (k + 1)) = putL (sideB (xs.take k)) xs[k] := by
  unfold sideB
  rw [List.take_succ_eq_append_getElem h, List.foldl_append]; rfl
theorem foldl_putL (xs : List Bs) : ∀ L : List Bs, Asc L → Asc (xs.foldl putL L) ∧ (∀ z, z ∈ xs.foldl putL L ↔ z ∈ L ∨ z ∈ xs) ∧ (xs.foldl putL L).length ≤ L.length + xs.length := by
  induction xs with
  | nil => intro L h; exact ⟨h, fun z => by simp, by simp⟩
  | cons x r ih =>
    intro L h
    obtain ⟨h1, h2, h3⟩ := ih (putL L x) (putL_asc h)
    refine ⟨h1, fun z => ?_, ?_⟩
    · show z ∈ r.foldl putL (putL L x) ↔ _
      rw [h2, mem_putL, List.mem_cons]
      constructor
      · rintro ((h | h) | h)
        · exact .inr (.inl h)
        · exact .inl h
        · exact .inr (.inr h)
      · rintro (h | h | h)
        · exact .inl (.inr h)
        · exact .inl (.inl h)
        · exact .inr h
    · have := putL_len x L
      show (r.foldl putL (putL L x)).length ≤ _
      simp at h3 ⊢
      omega
theorem sideB_len (xs : List Bs) : (sideB xs).length ≤ xs.length := by have := (foldl_putL xs [] List.Pairwise.nil).2.2; simpa [sideB] using this
theorem sideB_eq (xs : List Bs) : sideB xs = sortB xs := by
  obtain ⟨h1, h2, _⟩ := foldl_putL xs [] List.Pairwise.nil
  obtain ⟨h3, h4⟩ := sortB_spec xs
  refine asc_ext h1 h3 fun z => ?_
  rw [h4]
  show z ∈ xs.foldl putL [] ↔ _
  rw [h2]; simp
end Go.Proofs.Ytbdcomkbpapcaaa
