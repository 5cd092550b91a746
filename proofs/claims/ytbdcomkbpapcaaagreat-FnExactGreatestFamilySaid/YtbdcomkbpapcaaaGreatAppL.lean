import Derived.Test.YtbdcomkbpapcaaaGreatApp2
import Derived.Test.YtbdcomkbpapcaaaGreatHelp
/-
  append of a list to a slice of lists that is the call's own, and what a write to a box leaves of it. Condition: up to 2^30 lists.
-/

namespace Go.Proofs.YtbdcomkbpapcaaaGreat
open Go.RowKit
section
variable {w w' : World} {lo hi : Nat} {v u : Value} {xss : List (List Int)} {ys : List Int} {b n : Nat} {cells : Array Value} {T e : TypeId} {fr : Nat × Nat} {cs : List Value}
/-- A row of the call's own is no block of another type. -/
theorem own_box (h : Own w lo e 1 v n cs) (hb : w.heap[b]? = some (.cells cells T fr)) (hT : T ≠ e) : ∀ g, v.ownBlock = some g → some b = some g → False := by
  intro g hg hbg
  obtain rfl := Option.some.inj hbg
  rcases h.2 with ⟨rfl, _⟩ | ⟨g', cap, cur, rfl, _, hh, _⟩
  · cases hg
  · have : g' = b := Option.some.inj hg
    subst this
    rw [hb] at hh
    injection hh with hh
    injection hh with _ h2 _
    exact hT h2
/-- What a write to a block of another type leaves of a slice of slices. -/
theorem OwnSS.box (h : OwnSS w lo hi 37 3 v xss) (hb : w.heap[b]? = some (.cells cells T fr)) (h1 : T ≠ 37) (h2 : T ≠ 3) (hg : w.grownBy w' (some b)) : OwnSS w' lo hi 37 3 v xss := by
  obtain ⟨vs, a1, a2, a3⟩ := h
  exact ⟨vs, own_grown a1 hg (own_box a1 hb h1), a2, a3.1, fun i x xs hx hxs => ⟨own_grown (a3.2.1 i x xs hx hxs).1 hg (own_box (a3.2.1 i x xs hx hxs).1 hb h2), (a3.2.1 i x xs hx hxs).2⟩, a3.2.2⟩
theorem OwnI.box (h : OwnI w lo 3 v ys) (hb : w.heap[b]? = some (.cells cells T fr)) (h2 : T ≠ 3) (hg : w.grownBy w' (some b)) : OwnI w' lo 3 v ys := own_grown h hg (own_box h hb h2)
/-- The slice of slices, with one list more. -/
theorem OwnSS.snoc {v' : Value} {o : Obj} (_h : OwnSS w lo hi 37 3 v xss) (hu : OwnI w hi 3 u ys) (hlo : lo ≤ hi) (hhi : hi ≤ w.heap.size) {vs : List Value} (hvs : Own w lo 37 1 v xss.length vs) (hin : Inner w lo hi 3 vs xss)
    (h1 : Own w' lo 37 1 v' (xss.length + 1) (vs ++ [u])) (hg : (w.alloc o).grownBy w' v.ownBlock) : OwnSS w' lo w'.heap.size 37 3 v' (xss ++ [ys]) := by
  have hsz : w.heap.size ≤ w'.heap.size := Nat.le_trans (by simp) hg.size
  have hkeep : ∀ {b2 : Nat} {x : Value} {zs : List Int}, OwnI w b2 3 x zs → OwnI w' b2 3 x zs := fun hx => own_grown (own_ext hx (Ext.new w o)) hg fun g a c => own_ne hvs hx (by decide) c a
  refine ⟨vs ++ [u], by rw [List.length_append]; exact h1, fun g hgv => (own_blocks h1 g hgv).2, by simp [hin.1], fun i x xs hx hxs => ?_, fun i j x x' g hij hx hx' hgx hgx' => ?_⟩
  · by_cases hi' : i < vs.length
    · rw [List.getElem?_append_left hi'] at hx
      rw [List.getElem?_append_left (by rw [← hin.1]; exact hi')] at hxs
      have := hin.2.1 i x xs hx hxs
      exact ⟨hkeep this.1, fun g hgx => by have := this.2 g hgx; omega⟩
    · rw [List.getElem?_append_right (by omega)] at hx
      rw [List.getElem?_append_right (by rw [← hin.1]; omega)] at hxs
      have e0 : i - vs.length = 0 := by
        rcases Nat.eq_zero_or_pos (i - vs.length) with h0 | h0
        · exact h0
        · rw [List.getElem?_eq_none (by simp; omega)] at hx; cases hx
      rw [e0] at hx
      rw [← hin.1, e0] at hxs
      obtain rfl : u = x := by simpa using hx
      obtain rfl : ys = xs := by simpa using hxs
      exact ⟨own_rebase (hkeep hu) hlo, fun g hgx => (own_blocks (hkeep hu) g hgx).2⟩
  · have hold : ∀ {i : Nat} {x : Value} {g : Nat}, i < vs.length → (vs ++ [u])[i]? = some x → x.ownBlock = some g → g < hi := by
      intro i x g hil hx hgx
      rw [List.getElem?_append_left hil] at hx
      have hxl : i < xss.length := by rw [← hin.1]; exact hil
      exact (hin.2.1 i x _ hx (List.getElem?_eq_getElem hxl)).2 g hgx
    have hnew : ∀ {i : Nat} {x : Value} {g : Nat}, ¬ i < vs.length → (vs ++ [u])[i]? = some x → x.ownBlock = some g → i = vs.length ∧ hi ≤ g := by
      intro i x g hil hx hgx
      rw [List.getElem?_append_right (by omega)] at hx
      have e0 : i - vs.length = 0 := by
        rcases Nat.eq_zero_or_pos (i - vs.length) with h0 | h0
        · exact h0
        · rw [List.getElem?_eq_none (by simp; omega)] at hx; cases hx
      rw [e0] at hx
      obtain rfl : u = x := by simpa using hx
      exact ⟨by omega, (own_blocks hu g hgx).1⟩
    by_cases h3 : i < vs.length <;> by_cases h4 : j < vs.length
    · rw [List.getElem?_append_left h3] at hx
      rw [List.getElem?_append_left h4] at hx'
      exact hin.2.2 i j x x' g hij hx hx' hgx hgx'
    · have a := hold h3 hx hgx; have c := (hnew h4 hx' hgx').2; omega
    · have a := hold h4 hx' hgx'; have c := (hnew h3 hx hgx).2; omega
    · have a := (hnew h3 hx hgx).1; have c := (hnew h4 hx' hgx').1; omega
/-- The same, behind an append alone. -/
theorem OwnSS.snoc0 {v' : Value} (_h : OwnSS w lo hi 37 3 v xss) (hu : OwnI w hi 3 u ys) (hlo : lo ≤ hi) (hhi : hi ≤ w.heap.size) {vs : List Value} (hvs : Own w lo 37 1 v xss.length vs) (hin : Inner w lo hi 3 vs xss)
    (h1 : Own w' lo 37 1 v' (xss.length + 1) (vs ++ [u])) (hg : w.grownBy w' v.ownBlock) : OwnSS w' lo w'.heap.size 37 3 v' (xss ++ [ys]) := by
  have hsz : w.heap.size ≤ w'.heap.size := hg.size
  have hkeep : ∀ {b2 : Nat} {x : Value} {zs : List Int}, OwnI w b2 3 x zs → OwnI w' b2 3 x zs := fun hx => own_grown hx hg fun g a c => own_ne hvs hx (by decide) c a
  refine ⟨vs ++ [u], by rw [List.length_append]; exact h1, fun g hgv => (own_blocks h1 g hgv).2, by simp [hin.1], fun i x xs hx hxs => ?_, fun i j x x' g hij hx hx' hgx hgx' => ?_⟩
  · by_cases hi' : i < vs.length
    · rw [List.getElem?_append_left hi'] at hx
      rw [List.getElem?_append_left (by rw [← hin.1]; exact hi')] at hxs
      have := hin.2.1 i x xs hx hxs
      exact ⟨hkeep this.1, fun g hgx => by have := this.2 g hgx; omega⟩
    · rw [List.getElem?_append_right (by omega)] at hx
      rw [List.getElem?_append_right (by rw [← hin.1]; omega)] at hxs
      have e0 : i - vs.length = 0 := by
        rcases Nat.eq_zero_or_pos (i - vs.length) with h0 | h0
        · exact h0
        · rw [List.getElem?_eq_none (by simp; omega)] at hx; cases hx
      rw [e0] at hx
      rw [← hin.1, e0] at hxs
      obtain rfl : u = x := by simpa using hx
      obtain rfl : ys = xs := by simpa using hxs
      exact ⟨own_rebase (hkeep hu) hlo, fun g hgx => (own_blocks (hkeep hu) g hgx).2⟩
  · have hold : ∀ {i : Nat} {x : Value} {g : Nat}, i < vs.length → (vs ++ [u])[i]? = some x → x.ownBlock = some g → g < hi := by
      intro i x g hil hx hgx
      rw [List.getElem?_append_left hil] at hx
      have hxl : i < xss.length := by rw [← hin.1]; exact hil
      exact (hin.2.1 i x _ hx (List.getElem?_eq_getElem hxl)).2 g hgx
    have hnew : ∀ {i : Nat} {x : Value} {g : Nat}, ¬ i < vs.length → (vs ++ [u])[i]? = some x → x.ownBlock = some g → i = vs.length ∧ hi ≤ g := by
      intro i x g hil hx hgx
      rw [List.getElem?_append_right (by omega)] at hx
      have e0 : i - vs.length = 0 := by
        rcases Nat.eq_zero_or_pos (i - vs.length) with h0 | h0
        · exact h0
        · rw [List.getElem?_eq_none (by simp; omega)] at hx; cases hx
      rw [e0] at hx
      obtain rfl : u = x := by simpa using hx
      exact ⟨by omega, (own_blocks hu g hgx).1⟩
    by_cases h3 : i < vs.length <;> by_cases h4 : j < vs.length
    · rw [List.getElem?_append_left h3] at hx
      rw [List.getElem?_append_left h4] at hx'
      exact hin.2.2 i j x x' g hij hx hx' hgx hgx'
    · have a := hold h3 hx hgx; have c := (hnew h4 hx' hgx').2; omega
    · have a := hold h4 hx' hgx'; have c := (hnew h3 hx hgx).2; omega
    · have a := (hnew h3 hx hgx).1; have c := (hnew h4 hx' hgx').1; omega
end
section
variable {w : World} {ops : Array Oper} {rest : List Oper} {o : Oper} {a : Act} {Q : Exit → Act → World → Prop}
/-- append(v, u), lists. -/
theorem appL (w : World) {v u : Value} {xss : List (List Int)} {ys : List Int} {lo hi : Nat} (hown : OwnSS w lo hi 37 3 v xss) (hu : OwnI w hi 3 u ys) (hlo : lo ≤ hi) (hhi : hi ≤ w.heap.size) (hgd : o.guard = none) (s x : Operand)
    (ho : o.op = .call { callee := .builtin .append, args := #[s, x], argTypes := #[22, 22] })
    (hs : a.eval s = v) (hx : a.eval x = .slice (some ⟨w.heap.size, 0, none⟩) 1 1) (hn : xss.length ≤ 1073741824)
    (h : ∀ v' w', OwnSS w' lo w'.heap.size 37 3 v' (xss ++ [ys]) → (w.alloc (.cells #[u] 37)).grownBy w' v.ownBlock → wpList Tryz.prog ops Q rest (a.put o.dst v') w') :
    wpList Tryz.prog ops Q (o :: rest) a (w.alloc (.cells #[u] 37)) := by
  have hown' := hown
  obtain ⟨vs, h1, h2, h3⟩ := hown
  have hu1 : u.oneCell' = true := by
    obtain ⟨A, c, rfl, -⟩ := hu.rd.form
    rfl
  exact wpList_app1 w hgd s x 22 ho 37 Tryz.underlying22 info_ints (by decide) rfl lo v xss.length vs hs h1 u hx hu1 hn (Nat.le_trans hlo hhi) fun v' w' k1 k2 _ => h v' w' (hown'.snoc hu hlo hhi h1 h3 k1 k2) k2
/-- append(v, u), lists, at a step of a region that draws its order. -/
theorem stepL {K : Act → World → Prop} {E : Prop} (w : World) {v src u : Value} {xss : List (List Int)} {ys : List Int} {lo hi : Nat} (hown : OwnSS w lo hi 37 3 v xss) (hu : OwnI w hi 3 u ys) (hlo : lo ≤ hi) (hhi : hi ≤ w.heap.size) (hsrc : Rd w 1 src 1 [u]) (hgd : o.guard = none) (s x : Operand)
    (ho : o.op = .call { callee := .builtin .append, args := #[s, x], argTypes := #[22, 22] })
    (hs : a.eval s = v) (hx : a.eval x = src) (hn : xss.length ≤ 1073741824)
    (h : ∀ v' w', OwnSS w' lo w'.heap.size 37 3 v' (xss ++ [ys]) → w.grownBy w' v.ownBlock → K (a.put o.dst v') w') :
    if Region.wanted o (yielded ops a.tmps) = true then Oper.wp Tryz.prog o a w K Q else E := by
  have hw : Region.wanted o (yielded ops a.tmps) = true := by simp [Region.wanted, hgd]
  rw [if_pos hw]
  have hown' := hown
  obtain ⟨vs, h1, h2, h3⟩ := hown
  have hu1 : u.oneCell' = true := by
    obtain ⟨A, c, rfl, -⟩ := hu.rd.form
    rfl
  exact wp_app w s x 22 ho lo 37 Tryz.underlying22 info_ints (by decide) rfl (by decide) h1 hsrc (by simpa using hu1) hs hx (by omega) (Nat.le_trans hlo hhi) fun v' w' k1 k2 _ => h v' w' (hown'.snoc0 hu hlo hhi h1 h3 k1 k2) k2
end
end Go.Proofs.YtbdcomkbpapcaaaGreat
