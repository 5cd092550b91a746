/-
  The frame of every law's proof: from 'the call returns true and leaves all old memory alone' to the row's statement; how the arguments' readings are opened into the words of Base. No condition.
-/
import Derived.Test.YtapgpjhogdmjbaaDoorRows
import Derived.Test.YtapgpjhogdmjbaaDoorBase
import Derived.ProofKit
import Derived.OpenShut
import Derived.Deep.Slices
import Derived.Deep.Fields
import Derived.Lib.SmallJoins
namespace Go.Proofs.YtapgpjhogdmjbaaDoor
open Go.RowKit Go.ChangeShapes Go.WideShapes Go.ChangeAt Go.Deep Go.Joins
open Go.ChangeMaps (open_string shut_string)

theorem own_knob : ownKnob Tryd.prog.godebug = none := by kernel_rfl
theorem laid_out : laidOutB Tryd.prog = true := by kernel_rfl

/-- What every law's walk gives. -/
def RetT (W : World) : Ending → World → Prop := fun e W' => e = .returned (.bool true) ∧ Below W.heap.size W W'
theorem RetT.mk {W W' : World} {v : Value} (hv : v = .bool true) (h : Ext W W') : RetT W (.returned v) W' := ⟨by rw [hv], h⟩

section
variable {H : Type} {enc : TypeId × Value → H} {P : Program}
theorem trodAll_stays (hl : laidOutB P = true) {W W' : World} (hb : Below W.heap.size W W') : ∀ (ts : List TypeId) (vs : List Value) (ds : List (DataW H)) (ps : List MemPlace),
    (ts.all fun t => P.readableRec t && decide (t < P.types.size)) = true → DataW.TrodAll enc P W 0 (fun _ => true) true ts vs ds ps → (∀ x ∈ ps, x.block < W.heap.size) →
    DataW.TrodAll enc P W' 0 (fun b => decide (b < W.heap.size)) true ts vs ds ps := by
  intro ts
  induction ts with
  | nil =>
    intro vs ds ps _ h _
    obtain ⟨rfl, rfl, rfl⟩ := trodAll_nil h
    exact trodAll_mk0
  | cons t ts ih =>
    intro vs ds ps hr h hlt
    obtain ⟨v, vs', d, ds', p, q, rfl, rfl, rfl, h1, h2⟩ := trodAll_cons h
    simp only [List.all_cons, Bool.and_eq_true, decide_eq_true_eq] at hr
    exact trodAll_cons_mk (Below.trod hl hr.1.1 hr.1.2 h1 hb fun x hx => hlt x (List.mem_append_left _ hx)) (ih _ _ _ hr.2 h2 fun x hx => hlt x (List.mem_append_right _ hx))

theorem law_post {f : Func} {s : ChangeSpec} {W W' : World} {args : Array Value} {ds : List (DataW H)} {before : List MemPlace} {tb : TypeId}
    (hW : DataW.Whole enc P f.params.toList s.vars false W args.toList ds [] before) (hs : s.vars = []) (hfn : s.fn H ds = { results := [.lit (.bool true)], args := ds }) (hb : Below W.heap.size W W')
    (hl : laidOutB P = true) (hr : (f.params.toList.all fun t => P.readableRec t && decide (t < P.types.size)) = true) (hres : f.resultTypes = #[tb]) (htb : P.underlying tb = some .bool) :
    s.post enc P f false true false false W args (.bool true) W' := by
  have hlt : ∀ x ∈ before, x.block < W.heap.size := fun x hx => hW.lt x hx
  have hW' := hW
  obtain ⟨p, q, hA, hV, hpq, _, _⟩ := hW'
  rw [hs] at hV
  obtain ⟨_, rfl⟩ := trodVars_none hV
  rw [List.append_nil] at hpq
  subst hpq
  refine ⟨ds, [], before, [], before, [], hW, ?_, ?_, ?_, hb.frame _, fun h => by cases h⟩
  · rw [List.append_nil, hfn, hres]
    exact trodAll_mk1 (shut_bool htb true)
  · rw [List.append_nil, hfn]
    exact trodAll_stays hl hb _ _ _ _ hr hA hlt
  · rw [List.append_nil, hfn, hs]
    exact rfl
end

/-! ### Arguments opened -/
section
variable {H : Type} {enc : TypeId × Value → H} {P : Program} {W : World} {b0 : Nat} {r : Reach} {base : Nat} {spare : Nat → Bool} {held : Bool}
theorem i64_of_wf {x : Int} (h : (Lit.int .i64 x).wf = true) : I64 x := by
  simp [Lit.wf, IntKind.min, IntKind.max, IntKind.signed, IntKind.bits] at h
  exact ⟨by omega, by omega⟩
/-- A slice of one-cell elements, whatever they are: it reads as a list of cells, each with a reading of its own. -/
theorem read_slice1 {t e : TypeId} {fuel : Nat} {v : Value} {x : DataW H × List MemPlace} (ht : P.underlying t = some (.slice e)) (hc : P.cellsOf e = 1) (h : DataW.trod enc P W base spare held fuel t [v] = some x) :
    ∃ cs : List Value, Rd W 1 v cs.length cs ∧ ∀ u ∈ cs, ∃ n y, DataW.trod enc P W base spare held n e [u] = some y := by
  rcases open_slice1 ht hc h with ⟨h0, _⟩ | ⟨a, len, cap, m, n, V, D, Pl, h0, _, hl, hm, hmm, _, hx⟩
  · injection h0 with h0
    subst h0
    exact ⟨[], Rd.nil _ _, fun u hu => by simp at hu⟩
  · injection h0 with h0
    subst h0
    have hlm : len ≤ m := by rw [hmm]; split <;> omega
    refine ⟨(List.range len).map V, ⟨by simp, some a, cap, by simp, by simpa using hl, hm, fun j u hu => ?_⟩, fun u hu => ?_⟩
    · have hj : j < len := by have := (List.getElem?_eq_some_iff.1 hu).1; simpa using this
      simp [hj] at hu
      subst hu
      exact ⟨a, rfl, (hx j (by omega)).1⟩
    · obtain ⟨i, hi, rfl⟩ := List.mem_map.1 hu
      exact ⟨n, _, (hx i (by have := List.mem_range.1 hi; omega)).2⟩
theorem cells_one {v : Value} (h : ∃ a n c, v = .slice a n c) : v.cells.toList = [v] := by
  obtain ⟨a, n, c, rfl⟩ := h
  rfl
theorem list_ints {cs : List Value} (h : ∀ u ∈ cs, ∃ x, u = Value.int .i64 x ∧ I64 x) : ∃ xs : List Int, cs = ints xs ∧ ∀ x ∈ xs, I64 x := by
  induction cs with
  | nil => exact ⟨[], rfl, fun x hx => by simp at hx⟩
  | cons u cs ih =>
    obtain ⟨xs, rfl, hx⟩ := ih fun u hu => h u (List.mem_cons_of_mem _ hu)
    obtain ⟨x, rfl, hb⟩ := h u (List.mem_cons_self ..)
    refine ⟨x :: xs, rfl, fun y hy => ?_⟩
    rcases List.mem_cons.1 hy with rfl | hy
    · exact hb
    · exact hx y hy
theorem list_bools {cs : List Value} (h : ∀ u ∈ cs, ∃ x, u = Value.bool x) : ∃ xs : List Bool, cs = bools xs := by
  induction cs with
  | nil => exact ⟨[], rfl⟩
  | cons u cs ih =>
    obtain ⟨xs, rfl⟩ := ih fun u hu => h u (List.mem_cons_of_mem _ hu)
    obtain ⟨x, rfl⟩ := h u (List.mem_cons_self ..)
    exact ⟨x :: xs, rfl⟩
theorem read_ints {t e : TypeId} {fuel : Nat} {v : Value} {x : DataW H × List MemPlace} (ht : P.underlying t = some (.slice e)) (he : P.underlying e = some (.int .i64)) (hc : P.cellsOf e = 1) (h : DataW.trod enc P W base spare held fuel t [v] = some x) :
    ∃ xs, RdI W v xs ∧ ∀ x ∈ xs, I64 x := by
  obtain ⟨cs, hr, hu⟩ := read_slice1 ht hc h
  obtain ⟨xs, rfl, hx⟩ := list_ints (cs := cs) fun u h => by
    obtain ⟨n, y, hy⟩ := hu u h
    obtain ⟨z, hz, _, hw⟩ := DataW.trod_int he hy
    injection hz with hz
    exact ⟨z, hz, i64_of_wf hw⟩
  exact ⟨xs, by simpa [RdI] using hr, hx⟩
theorem read_bools {t e : TypeId} {fuel : Nat} {v : Value} {x : DataW H × List MemPlace} (ht : P.underlying t = some (.slice e)) (he : P.underlying e = some .bool) (hc : P.cellsOf e = 1) (h : DataW.trod enc P W base spare held fuel t [v] = some x) :
    ∃ xs, RdB W v xs := by
  obtain ⟨cs, hr, hu⟩ := read_slice1 ht hc h
  obtain ⟨xs, rfl⟩ := list_bools (cs := cs) fun u h => by
    obtain ⟨n, y, hy⟩ := hu u h
    obtain ⟨z, hz, _⟩ := DataW.trod_bool he hy
    injection hz with hz
    exact ⟨z, hz⟩
  exact ⟨xs, by simpa [RdB] using hr⟩
theorem read_intss {t s e : TypeId} {fuel : Nat} {v : Value} {x : DataW H × List MemPlace} (ht : P.underlying t = some (.slice s)) (hs : P.underlying s = some (.slice e)) (he : P.underlying e = some (.int .i64)) (hcs : P.cellsOf s = 1) (hc : P.cellsOf e = 1)
    (h : DataW.trod enc P W base spare held fuel t [v] = some x) : ∃ xss, RdSS W v xss ∧ ∀ xs ∈ xss, ∀ x ∈ xs, I64 x := by
  obtain ⟨cs, hr, hu⟩ := read_slice1 ht hcs h
  have key : ∃ xss : List (List Int), xss.length = cs.length ∧ (∀ (i : Nat) (xs : List Int), xss[i]? = some xs → ∃ u, cs[i]? = some u ∧ RdI W u xs) ∧ ∀ xs ∈ xss, ∀ x ∈ xs, I64 x := by
    clear hr h
    induction cs with
    | nil => exact ⟨[], rfl, fun i xs h => by simp at h, fun xs h => by simp at h⟩
    | cons u cs ih =>
      obtain ⟨xss, h1, h2, h3⟩ := ih fun u hx => hu u (List.mem_cons_of_mem _ hx)
      obtain ⟨n, y, hy⟩ := hu u (List.mem_cons_self ..)
      obtain ⟨xs, hx, hb⟩ := read_ints hs he hc hy
      refine ⟨xs :: xss, by simp [h1], fun i ys h => ?_, fun ys h => ?_⟩
      · cases i with
        | zero => simp at h; subst h; exact ⟨u, rfl, hx⟩
        | succ i => simpa using h2 i ys (by simpa using h)
      · rcases List.mem_cons.1 h with rfl | h
        · exact hb
        · exact h3 ys h
  obtain ⟨xss, h1, h2, h3⟩ := key
  exact ⟨xss, ⟨cs, by rw [h1]; exact hr, h2⟩, h3⟩
theorem trod_one {t e : TypeId} {v : Value} {d : DataW H} {p : List MemPlace} (ht : P.underlying t = some (.slice e)) (hv : Value.okWide P W r b0 t v) (h : DataW.Trod enc P W base spare held t v d p) : ∃ fuel, DataW.trod enc P W base spare held fuel t [v] = some (d, p) := by
  obtain ⟨fuel, hf⟩ := h
  rw [cells_one (okWide_slice ht hv)] at hf
  exact ⟨fuel, hf⟩
end
end Go.Proofs.YtapgpjhogdmjbaaDoor
