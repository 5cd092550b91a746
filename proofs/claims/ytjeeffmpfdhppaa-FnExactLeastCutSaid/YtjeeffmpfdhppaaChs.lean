/-
  The lists of so many of the numbers from 1 on: plain words; and append to a row that is shared on. Conditions: lengths up to 2^30.
-/
import Derived.Test.YtjeeffmpfdhppaaFamD
import Derived.ArgAppend
namespace Go.Proofs.Ytjeeffmpfdhppaa
open Go.RowKit
/-- All lists that begin with xs and have d more numbers, ascending, from f to n. -/
def chL (n : Nat) : Nat → List Int → Nat → List (List Int)
  | 0, xs, _ => [xs]
  | d + 1, xs, f => (List.range (n + 1 - f)).flatMap fun j => chL n d (xs ++ [((f + j : Nat) : Int)]) (f + j + 1)
def accL (n d : Nat) (xs : List Int) (f t : Nat) : List (List Int) := (List.range t).flatMap fun j => chL n d (xs ++ [((f + j : Nat) : Int)]) (f + j + 1)
theorem chL_succ (n d : Nat) (xs : List Int) (f : Nat) : chL n (d + 1) xs f = accL n d xs f (n + 1 - f) := rfl
theorem accL_succ (n d : Nat) (xs : List Int) (f t : Nat) : accL n d xs f (t + 1) = accL n d xs f t ++ chL n d (xs ++ [((f + t : Nat) : Int)]) (f + t + 1) := by simp [accL, List.range_succ]
theorem accL_le (n d : Nat) (xs : List Int) (f t : Nat) : ∀ s, (accL n d xs f t).length ≤ (accL n d xs f (t + s)).length
  | 0 => Nat.le_refl _
  | s + 1 => by
    have := accL_le n d xs f t s
    rw [← Nat.add_assoc, accL_succ, List.length_append]
    omega
/-! ### a row with room -/
section
variable {w : World} {base : Nat} {e : TypeId} {g L cap : Nat} {xs : List Int}
theorem own_room (h : OwnI w base e (.slice (some ⟨g, 0, none⟩) L cap) xs) (hl : xs.length = L) (hr : L + 1 ≤ cap) (x : Int) :
    (∃ u0, w.cell? ⟨g, L, none⟩ = some u0) ∧ w.frozen? ⟨g, L, none⟩ = false ∧ OwnI (w.setCell ⟨g, L, none⟩ (.int .i64 x)) base e (.slice (some ⟨g, 0, none⟩) (L + 1) cap) (xs ++ [x]) := by
  subst hl
  rcases h.2 with ⟨hv, _⟩ | ⟨g', cap', cur, hv, hb, hg, hnc, hcm, hcs, ht⟩
  · cases hv
  · injection hv with h1 h2 h3
    injection h1 with h1
    injection h1 with h1
    subst h1; subst h3
    have hlt : xs.length < cur.size := by omega
    have hblk : (w.setCell ⟨g, xs.length, none⟩ (.int .i64 x)).heap[g]? = some (.cells (cur.set xs.length (.int .i64 x) hlt) e (0, 0)) := by
      obtain ⟨hk, hk'⟩ := Array.getElem?_eq_some_iff.1 hg
      show (w.heap.modify g _)[g]? = _
      rw [Array.getElem?_eq_getElem (by rw [Array.size_modify]; exact hk), Array.getElem_modify_self, hk']
      simp [Array.setIfInBounds, hlt]
    refine ⟨⟨cur[xs.length], by simp [World.cell?, hg, hlt]⟩, by simp [World.frozen?, hg], by simp [ints], .inr ⟨g, cap, _, by simp, hb, hblk, by simp; omega, hcm, by simpa using hcs, ?_⟩⟩
    rw [ints_snoc, ← ht, Array.toList_set]
    simp only [Nat.mul_one, List.length_append, List.length_singleton]
    rw [List.take_succ_eq_append_getElem (by simp; omega)]
    simp [List.take_set_of_le]
theorem own_short {x : Int} (h : OwnI w base e (.slice (some ⟨g, 0, none⟩) (L + 1) cap) (xs ++ [x])) (hl : xs.length = L) : OwnI w base e (.slice (some ⟨g, 0, none⟩) L cap) xs := by
  subst hl
  rcases h.2 with ⟨hv, _⟩ | ⟨g', cap', cur, hv, hb, hg, hnc, hcm, hcs, ht⟩
  · cases hv
  · injection hv with h1 h2 h3
    injection h1 with h1
    injection h1 with h1
    subst h1; subst h3
    rw [ints_snoc] at ht
    refine ⟨by simp [ints], .inr ⟨g, cap, cur, rfl, hb, hg, by simp at hnc; omega, hcm, hcs, ?_⟩⟩
    have := congrArg (List.take (ints xs).length) ht
    rw [List.take_left, List.take_take] at this
    rw [← this]
    congr 1
    simp
end
/-- append of one number to a row: in place where there is room, else in a new block; what was there before can be had again. -/
theorem run_fork {w wa : World} {lo : Nat} {rv : Value} {xs : List Int} {x : Int} {nb : Nat} {ty : TypeId} (h : OwnI w lo 3 rv xs) (ha : Ext w wa) (hlo : lo ≤ w.heap.size) (hx : wa.cell? ⟨nb, 0, none⟩ = some (.int .i64 x)) (hn : xs.length ≤ 1000) :
    ∃ rv' w', (Builtin.append_ #[45, 45] ty #[rv, .slice (some ⟨nb, 0, none⟩) 1 1]).run Try.prog wa = .ok rv' w' ∧ OwnI w' lo 3 rv' (xs ++ [x]) ∧ wa.grownBy w' rv.ownBlock ∧
      (rv'.ownBlock = rv.ownBlock ∨ ∀ g, rv'.ownBlock = some g → wa.heap.size ≤ g) ∧
      (∀ k, k < wa.heap.size → some k ≠ rv'.ownBlock → w'.heap[k]? = wa.heap[k]?) ∧
      (∀ w2, OwnI w2 lo 3 rv' (xs ++ [x]) → (∀ g, rv.ownBlock = some g → rv'.ownBlock ≠ some g → w2.heap[g]? = w'.heap[g]?) → OwnI w2 lo 3 rv xs) := by
  obtain ⟨i0, hi, hz, hz1, hz2⟩ := info_parts info_int
  have hnews : ∀ j u, [Value.int .i64 x][j]? = some u → wa.cell? ((⟨nb, 0, none⟩ : Addr).add j) = some u := fun j u hu => by
    rcases j with _ | j
    · cases hu
      simpa [Addr.add] using hx
    · cases hu
  rcases own_form h with ⟨rfl, hl, _⟩ | ⟨g, cap, rfl, hb, hgl, hnc, hcm⟩
  · obtain rfl : xs = [] := List.eq_nil_of_length_eq_zero hl
    obtain ⟨v', w', hr, h2, h3, h4⟩ := run_app (P := Try.prog) wa lo 45 ty 3 Try.underlying45 info_int (by decide) rfl (by decide) (own_ext h ha) (src := .slice (some ⟨nb, 0, none⟩) 1 1) (m := 1) (ys := [.int .i64 x]) ⟨rfl, _, _, rfl, Nat.le_refl _, by unfold maxLen; omega, fun j u hu => ⟨_, rfl, hnews j u hu⟩⟩ (by simp [Value.oneCell']) (by simp) (Nat.le_trans hlo ha.size)
    refine ⟨v', w', hr, h2, h3, .inr fun g hg => ?_, fun k hk _ => h3.block k hk (by simp [Value.ownBlock]), fun w2 _ _ => own_nil _ _ _ _⟩
    rcases h4 with e | e
    · rw [e] at hg; cases hg
    · rw [e] at hg; cases hg; exact Nat.le_refl _
  · by_cases hroom : xs.length + 1 ≤ cap
    · obtain ⟨⟨u0, hc⟩, hf, ho⟩ := own_room (own_ext h ha) rfl hroom x
      have hr := run_append_room_cells (P := Try.prog) wa 45 ty 3 i0 Try.underlying45 hi g 0 xs.length cap ⟨nb, 0, none⟩ 1 1 [.int .i64 x] (by rw [hz1]; rfl) hnews (by simp [Value.oneCell']) hroom
        (fun j hj => by obtain rfl : j = 0 := by simpa using hj
                        rw [hz1]; simpa using (by rw [hc]; rfl : (wa.cell? ⟨g, xs.length, none⟩).isSome = true))
        (fun j hj => by obtain rfl : j = 0 := by simpa using hj
                        rw [hz1]; simpa using hf)
      rw [hz1] at hr
      simp only [World.setCells, Nat.mul_one, Nat.zero_add] at hr
      refine ⟨_, _, hr, by simpa using ho, grown_set (grown_refl _ _) _ _, .inl rfl, fun k hk hne => Below.heap_setCell _ _ _ k (fun e => hne (by rw [e]; rfl)), fun w2 h2 _ => own_short h2 rfl⟩
    · obtain ⟨v', w', hr, h2, h3⟩ := run_append_arg_grows (P := Try.prog) wa 45 ty 3 i0 (.int .i64 0) 1 8 Try.underlying45 hi hz hz1 hz2 rfl (by decide) ⟨g, 0, none⟩ xs.length cap (ints xs) (by simp)
        (fun j u hu => World.ownsRow.cells (own_ext h ha) (g := g) rfl j u hu) ⟨nb, 0, none⟩ 1 1 [.int .i64 x] rfl hnews (by omega) (by unfold maxLen; omega) (by omega)
      have hsz := ha.size
      have hgw : g < wa.heap.size := by omega
      have hv : ∀ g', v'.ownBlock = some g' → wa.heap.size ≤ g' := fun g' hg' => (own_blocks h2 g' hg').1
      refine ⟨v', w', hr, ?_, ⟨h3.os, h3.tape, h3.output, h3.size, fun k hk _ => h3.block k hk (by simp)⟩, .inr hv, fun k hk _ => h3.block k hk (by simp), fun w2 _ hk => ?_⟩
      · unfold OwnI
        rw [ints_snoc, List.length_append]
        exact own_rebase h2 (Nat.le_trans hlo hsz)
      · have e1 := hk g rfl (fun e => by have := hv g e; omega)
        have e2 := h3.block g hgw (by simp)
        rcases h.2 with ⟨hv0, _⟩ | ⟨g', cap', cur, hv0, hb0, hg0, rest⟩
        · cases hv0
        · injection hv0 with h1 _ h5
          injection h1 with h1
          injection h1 with h1
          subst h1; subst h5
          exact ⟨h.1, .inr ⟨g, cap, cur, rfl, hb0, (e1.trans e2).trans (ha.heap hg0), rest⟩⟩
end Go.Proofs.Ytjeeffmpfdhppaa
