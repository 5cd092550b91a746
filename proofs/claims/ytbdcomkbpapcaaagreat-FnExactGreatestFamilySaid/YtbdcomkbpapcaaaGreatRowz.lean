import Derived.Test.YtbdcomkbpapcaaaGreatFamB
import Derived.Test.YtbdcomkbpapcaaaGreatFamA
/-
  Rows of numbers beside one another: none shares a block with another one. Conditions: up to 2^30 rows.
-/

namespace Go.Proofs.YtbdcomkbpapcaaaGreat
open Go.RowKit
abbrev Row := Value × List Int
/-- Rows of the call's own. -/
def RowsZ (w : World) (lo hi : Nat) (zs : List Row) : Prop :=
  (∀ z ∈ zs, OwnI w lo 3 z.1 z.2 ∧ ∀ g, z.1.ownBlock = some g → g < hi) ∧ zs.Pairwise fun a b => ∀ g, a.1.ownBlock = some g → b.1.ownBlock = some g → False
abbrev OutZ (w : World) (lo : Nat) (v : Value) (zs : List Row) : Prop := Own w lo 37 1 v zs.length (zs.map Prod.fst)
section
variable {w w' : World} {lo hi lo' hi' : Nat} {zs ys : List Row} {v : Value}
theorem RowsZ.inner (h : RowsZ w lo hi zs) : Inner w lo hi 3 (zs.map Prod.fst) (zs.map Prod.snd) := by
  refine ⟨by simp, fun i u xs hu hx => ?_, fun i j u u' g hij hu hu' hg hg' => ?_⟩
  · rw [List.getElem?_map, Option.map_eq_some_iff] at hu hx
    obtain ⟨z, hz, rfl⟩ := hu
    obtain ⟨z', hz', rfl⟩ := hx
    rw [hz] at hz'
    cases hz'
    exact h.1 z (List.mem_of_getElem? hz)
  · rw [List.getElem?_map, Option.map_eq_some_iff] at hu hu'
    obtain ⟨z, hz, rfl⟩ := hu
    obtain ⟨z', hz', rfl⟩ := hu'
    obtain ⟨hi, rfl⟩ := List.getElem?_eq_some_iff.1 hz
    obtain ⟨hj, rfl⟩ := List.getElem?_eq_some_iff.1 hz'
    have hp := List.pairwise_iff_getElem.1 h.2
    rcases Nat.lt_or_gt_of_ne hij with a | a
    · exact hp i j hi hj a g hg hg'
    · exact hp j i hj hi a g hg' hg
theorem rowsZ_of {vs : List Value} {xss : List (List Int)} (h : Inner w lo hi 3 vs xss) : ∃ zs : List Row, vs = zs.map Prod.fst ∧ xss = zs.map Prod.snd ∧ RowsZ w lo hi zs := by
  refine ⟨vs.zip xss, (List.map_fst_zip (by rw [h.1]; exact Nat.le_refl _)).symm, (List.map_snd_zip (by rw [h.1]; exact Nat.le_refl _)).symm, fun z hz => ?_, ?_⟩
  · obtain ⟨i, hi, rfl⟩ := List.mem_iff_getElem.1 hz
    rw [List.getElem_zip]
    rw [List.length_zip] at hi
    exact h.2.1 i _ _ (List.getElem?_eq_getElem (by omega)) (List.getElem?_eq_getElem (by omega))
  · refine List.pairwise_iff_getElem.2 fun i j hi hj hij g hg hg' => ?_
    rw [List.getElem_zip] at hg hg'
    rw [List.length_zip] at hi hj
    exact h.2.2 i j _ _ g (by omega) (List.getElem?_eq_getElem (by omega)) (List.getElem?_eq_getElem (by omega)) hg hg'
theorem RowsZ.nil (w : World) (lo hi : Nat) : RowsZ w lo hi [] := ⟨fun z h => by simp at h, List.Pairwise.nil⟩
theorem RowsZ.ext (h : RowsZ w lo hi zs) (hx : Ext w w') : RowsZ w' lo hi zs := ⟨fun z hz => ⟨own_ext (h.1 z hz).1 hx, (h.1 z hz).2⟩, h.2⟩
theorem RowsZ.hi_le (h : RowsZ w lo hi zs) (hh : hi ≤ hi') : RowsZ w lo hi' zs := ⟨fun z hz => ⟨(h.1 z hz).1, fun g hg => Nat.lt_of_lt_of_le ((h.1 z hz).2 g hg) hh⟩, h.2⟩
theorem RowsZ.hi_size (h : RowsZ w lo hi zs) : RowsZ w lo w.heap.size zs := ⟨fun z hz => ⟨(h.1 z hz).1, fun g hg => (own_blocks (h.1 z hz).1 g hg).2⟩, h.2⟩
theorem RowsZ.lo_le (h : RowsZ w lo hi zs) (hh : lo' ≤ lo) : RowsZ w lo' hi zs := ⟨fun z hz => ⟨own_rebase (h.1 z hz).1 hh, (h.1 z hz).2⟩, h.2⟩
theorem RowsZ.sub (h : RowsZ w lo hi zs) (hs : List.Sublist ys zs) : RowsZ w lo hi ys := ⟨fun z hz => h.1 z (hs.subset hz), h.2.sublist hs⟩
theorem RowsZ.perm (h : RowsZ w lo hi zs) (hp : List.Perm zs ys) : RowsZ w lo hi ys := ⟨fun z hz => h.1 z (hp.mem_iff.2 hz), (hp.pairwise_iff fun hab g ha hb => hab g hb ha).1 h.2⟩
theorem RowsZ.cat (h1 : RowsZ w lo hi zs) (h2 : RowsZ w lo' hi' ys) (hl : lo ≤ lo') (hm : hi ≤ lo') (hh : hi ≤ hi') : RowsZ w lo hi' (zs ++ ys) := by
  refine ⟨fun z hz => ?_, List.pairwise_append.2 ⟨h1.2, h2.2, fun a ha b hb g hg hg' => ?_⟩⟩
  · rcases List.mem_append.1 hz with h | h
    · exact ⟨(h1.1 z h).1, fun g hg => Nat.lt_of_lt_of_le ((h1.1 z h).2 g hg) hh⟩
    · exact ⟨own_rebase (h2.1 z h).1 hl, (h2.1 z h).2⟩
  · have := (h1.1 a ha).2 g hg
    have := (own_blocks (h2.1 b hb).1 g hg').1
    omega
theorem RowsZ.one {u : Value} {xs : List Int} (h : OwnI w lo 3 u xs) : RowsZ w lo w.heap.size [(u, xs)] :=
  ⟨fun z hz => by obtain rfl := List.mem_singleton.1 hz; exact ⟨h, fun g hg => (own_blocks h g hg).2⟩, List.pairwise_singleton _ _⟩
/-- A new row behind the others. -/
theorem RowsZ.new {u : Value} {xs : List Int} (h : RowsZ w lo hi zs) (hx : Ext w w') (hu : OwnI w' lo' 3 u xs) (hl : lo ≤ lo') (hm : hi ≤ lo') (hs : hi ≤ w'.heap.size) : RowsZ w' lo w'.heap.size (zs ++ [(u, xs)]) :=
  (h.ext hx).cat (RowsZ.one hu) hl hm hs
/-- What an append to, or a write to, a slice of rows leaves of the rows. -/
theorem RowsZ.grown {row : Option Nat} (h : RowsZ w lo hi zs) (hg : w.grownBy w' row) (hne : ∀ (u : Value) (xs : List Int) (g : Nat), OwnI w lo 3 u xs → u.ownBlock = some g → row = some g → False) : RowsZ w' lo hi zs :=
  ⟨fun z hz => ⟨own_grown (h.1 z hz).1 hg fun g a b => hne _ _ g (h.1 z hz).1 a b, (h.1 z hz).2⟩, h.2⟩
theorem RowsZ.grownO {ws : List Row} {lo2 : Nat} (h : RowsZ w lo hi zs) (ho : OutZ w lo2 v ws) (hg : w.grownBy w' v.ownBlock) : RowsZ w' lo hi zs := h.grown hg fun _ _ _ hu a b => own_ne ho hu (by decide) b a
theorem RowsZ.box {b : Nat} {cells : Array Value} {T : TypeId} {fr : Nat × Nat} (h : RowsZ w lo hi zs) (hb : w.heap[b]? = some (.cells cells T fr)) (hT : T ≠ 3) (hg : w.grownBy w' (some b)) : RowsZ w' lo hi zs := h.grown hg fun u xs g hu a c => own_box hu hb hT g a c
theorem RowsZ.one' (h : RowsZ w lo hi zs) : ∀ u ∈ zs.map Prod.fst, u.oneCell' = true := fun u hu => by
  obtain ⟨z, hz, rfl⟩ := List.mem_map.1 hu
  obtain ⟨A, c, e, -⟩ := (h.1 z hz).1.rd.form
  rw [e]; rfl
theorem RowsZ.ss (h : RowsZ w lo hi zs) (ho : OutZ w lo v zs) (hh : ∀ g, v.ownBlock = some g → g < hi) : OwnSS w lo hi 37 3 v (zs.map Prod.snd) := ⟨zs.map Prod.fst, by rw [List.length_map]; exact ho, hh, h.inner⟩
theorem RowsZ.ssz (h : RowsZ w lo w.heap.size zs) (ho : OutZ w lo v zs) : OwnSS w lo w.heap.size 37 3 v (zs.map Prod.snd) := h.ss ho fun g hg => (own_blocks ho g hg).2
theorem OwnSS.rows {xss : List (List Int)} (h : OwnSS w lo hi 37 3 v xss) : ∃ zs : List Row, xss = zs.map Prod.snd ∧ OutZ w lo v zs ∧ RowsZ w lo hi zs := by
  obtain ⟨vs, h1, -, h3⟩ := h
  obtain ⟨zs, rfl, rfl, hz⟩ := rowsZ_of h3
  rw [List.length_map] at h1
  exact ⟨zs, rfl, h1, hz⟩
/-- A row of a slice of rows that is read. -/
theorem OutZ.at_ {A : Option Addr} {n c : Nat} (h : Hid (OutZ w lo (.slice A n c) zs)) {k : Nat} (hk : k < zs.length) : ∃ a, A = some a ∧ w.cell? (a.add k) = some zs[k].1 := by
  obtain ⟨h1, A', c', e, -, -, hc⟩ := own_rd h.out
  injection e with e1 e2 e3
  subst e1
  obtain ⟨a, ha, hcell⟩ := hc k zs[k].1 (by rw [List.getElem?_map, List.getElem?_eq_getElem hk]; rfl)
  exact ⟨a, ha, hcell⟩
theorem OutZ.formN {n : Nat} (h : OutZ w lo v zs) (hn : zs.length = n) : ∃ A c, v = .slice A n c := by
  obtain ⟨_, A, c, e, _⟩ := own_rd h
  exact ⟨A, c, by rw [e, hn]⟩
theorem OutZ.form (h : OutZ w lo v zs) : ∃ A c, v = .slice A zs.length c ∧ zs.length ≤ c ∧ c ≤ maxLen := by
  obtain ⟨_, A, c, e, h1, h2, _⟩ := own_rd h
  exact ⟨A, c, e, h1, h2⟩
end
section
variable {w : World} {lo : Nat} {zs ys : List Row} {v src : Value} {o : Oper} {a : Act} {Q : Exit → Act → World → Prop}
/-- append(v, src...), rows. -/
theorem wp_appZ {K : Act → World → Prop} (w : World) (hown : OutZ w lo v zs) (hsrc : Rd w 1 src ys.length (ys.map Prod.fst)) (h1 : ∀ u ∈ ys.map Prod.fst, u.oneCell' = true) (s x : Operand)
    (ho : o.op = .call { callee := .builtin .append, args := #[s, x], argTypes := #[22, 22] })
    (hs : a.eval s = v) (hx : a.eval x = src) (hn : zs.length + ys.length ≤ 2147483648) (hbase : lo ≤ w.heap.size)
    (h : ∀ v' w', OutZ w' lo v' (zs ++ ys) → w.grownBy w' v.ownBlock → (v'.ownBlock = v.ownBlock ∨ v'.ownBlock = some w.heap.size) → K (a.put o.dst v') w') : o.wp Tryz.prog a w K Q :=
  wp_app w s x 22 ho lo 37 Tryz.underlying22 info_ints (by decide) rfl (by decide) hown hsrc h1 hs hx hn hbase fun v' w' k1 k2 k3 => h v' w' (by unfold OutZ; rw [List.length_append, List.map_append]; exact k1) k2 k3
theorem appZ {ops : Array Oper} {rest : List Oper} (w : World) (hown : OutZ w lo v zs) (hsrc : Rd w 1 src ys.length (ys.map Prod.fst)) (h1 : ∀ u ∈ ys.map Prod.fst, u.oneCell' = true) (hgd : o.guard = none) (s x : Operand)
    (ho : o.op = .call { callee := .builtin .append, args := #[s, x], argTypes := #[22, 22] })
    (hs : a.eval s = v) (hx : a.eval x = src) (hn : zs.length + ys.length ≤ 2147483648) (hbase : lo ≤ w.heap.size)
    (h : ∀ v' w', OutZ w' lo v' (zs ++ ys) → w.grownBy w' v.ownBlock → (v'.ownBlock = v.ownBlock ∨ v'.ownBlock = some w.heap.size) → wpList Tryz.prog ops Q rest (a.put o.dst v') w') :
    wpList Tryz.prog ops Q (o :: rest) a w :=
  wpList_plain hgd fun _ hK => wp_appZ w hown hsrc h1 s x ho hs hx hn hbase fun v' w' a b c => hK _ _ (h v' w' a b c)
theorem stepZ {K : Act → World → Prop} {E : Prop} {ops : Array Oper} (w : World) (hown : OutZ w lo v zs) (hsrc : Rd w 1 src ys.length (ys.map Prod.fst)) (h1 : ∀ u ∈ ys.map Prod.fst, u.oneCell' = true) (hgd : o.guard = none) (s x : Operand)
    (ho : o.op = .call { callee := .builtin .append, args := #[s, x], argTypes := #[22, 22] })
    (hs : a.eval s = v) (hx : a.eval x = src) (hn : zs.length + ys.length ≤ 2147483648) (hbase : lo ≤ w.heap.size)
    (h : ∀ v' w', OutZ w' lo v' (zs ++ ys) → w.grownBy w' v.ownBlock → (v'.ownBlock = v.ownBlock ∨ v'.ownBlock = some w.heap.size) → K (a.put o.dst v') w') :
    if Region.wanted o (yielded ops a.tmps) = true then Oper.wp Tryz.prog o a w K Q else E := by
  have hw : Region.wanted o (yielded ops a.tmps) = true := by simp [Region.wanted, hgd]
  rw [if_pos hw]
  exact wp_appZ w hown hsrc h1 s x ho hs hx hn hbase h
/-- Rows in a block that is known. -/
theorem rdZ_at {b : Nat} {us : List Value} {e : TypeId} {fr : Nat × Nat} (h : w.heap[b]? = some (.cells us.toArray e fr)) (hn : us.length ≤ 1073741824) : Rd w 1 (.slice (some ⟨b, 0, none⟩) us.length us.length) us.length us :=
  ⟨by simp, some ⟨b, 0, none⟩, us.length, rfl, Nat.le_refl _, by unfold maxLen; omega, fun j x hx => ⟨_, rfl, World.news_of_block h j x (by simpa using hx)⟩⟩
end
end Go.Proofs.YtbdcomkbpapcaaaGreat
