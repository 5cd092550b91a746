/-
  Pebbling, the reference's search: its state. Condition: at most ten nodes.
-/
import Derived.Test.YtapgpjhogdmjbaaPebS
import Derived.Test.YtapgpjhogdmjbaaMkI
namespace Go.Proofs.Ytapgpjhogdmjbaa
open Go.RowKit Peb
def natI (ln : List Nat) : List Int := ln.map fun P : Nat => (P : Int)
theorem natI_snoc (ln : List Nat) (b : Nat) : natI (ln ++ [b]) = natI ln ++ [(b : Int)] := by simp [natI]
theorem natI_len (ln : List Nat) : (natI ln).length = ln.length := by simp [natI]
theorem natI_get {ln : List Nat} {k : Nat} (h : k < ln.length) (h' : k < (natI ln).length) : (natI ln)[k] = ((ln[k] : Nat) : Int) := by simp [natI]
/-- The distances' list and the queue. -/
structure Fr (w1 w : World) (g M : Nat) (F : List Int) (lv : Value) (ln : List Nat) : Prop where
  x : Ext w1 w
  f : OwnI w w1.heap.size 3 (.slice (some ⟨g, 0, none⟩) M M) F
  fl : F.length = M
  l : OwnI w (g + 1) 3 lv (natI ln)
section
variable {w1 w w' : World} {g M : Nat} {F : List Int} {lv : Value} {ln : List Nat}
theorem Fr.ext (h : Fr w1 w g M F lv ln) (hx : Ext w w') : Fr w1 w' g M F lv ln := ⟨h.x.trans hx, own_ext h.f hx, h.fl, own_ext h.l hx⟩
theorem Fr.put (h : Fr w1 w g M F lv ln) {i : Nat} (hi : i < M) (x : Int) : (∃ u0, w.cell? ⟨g, i, none⟩ = some u0) ∧ w.frozen? ⟨g, i, none⟩ = false ∧ Fr w1 (w.setCell ⟨g, i, none⟩ (.int .i64 x)) g M (F.set i x) lv ln := by
  obtain ⟨h1, h2, h3⟩ := ownI_store h.f h.fl hi
  have hg : w.grownBy (w.setCell ⟨g, i, none⟩ (.int .i64 x)) (some g) := grown_set (grown_refl _ _) _ _
  have hgl : w1.heap.size ≤ g := ownI_ge h.f g rfl
  exact ⟨h1, h2, h.x.grown hg h.x.size (fun k hk => by cases hk; exact hgl), h3.out x, by rw [List.length_set]; exact h.fl, own_grown h.l hg (fun k a b => by have h1 := ownI_ge h.l k a; have h2 : g = k := Option.some.inj b; omega)⟩
theorem Fr.push {wa w2 : World} {v2 : Value} {b : Nat} (h : Fr w1 w g M F lv ln) (ha : Ext w wa) (hg : wa.grownBy w2 lv.ownBlock) (ho : OwnI w2 (g + 1) 3 v2 (natI ln ++ [(b : Int)])) : Fr w1 w2 g M F v2 (ln ++ [b]) := by
  have h2 := h.ext ha
  have hgl : w1.heap.size ≤ g := ownI_ge h.f g rfl
  refine ⟨ext_appS h2.x hg (fun k hk => by have := ownI_ge h2.l k hk; omega), own_grown h2.f hg (fun k a b => by have h1 := ownI_ge h2.l k b; have h2 : g = k := Option.some.inj a; omega), h.fl, by rw [natI_snoc]; exact ho⟩
theorem Fr.at_ (h : Fr w1 w g M F lv ln) {i : Nat} (hi : i < M) : w.cell? ⟨g, i, none⟩ = some (.int .i64 (fa F i)) := by
  have hl : i < F.length := by rw [h.fl]; exact hi
  obtain ⟨a, e, hc⟩ := RdI.at_ (hd h.f.rd) hl
  injection e with e
  subst e
  have he : (⟨g, 0, none⟩ : Addr).add i = ⟨g, i, none⟩ := by
    unfold Addr.add
    split
    · rename_i h; rw [h]
    · simp
  rw [he] at hc
  have e2 : fa F i = F[i] := by simp [fa, List.getD_eq_getElem?_getD, hl]
  rw [e2]; exact hc
theorem Fr.lat {A : Option Addr} {m c k : Nat} (h : Fr w1 w g M F (.slice A m c) ln) (hk : k < ln.length) : ∃ a, A = some a ∧ w.cell? (a.add k) = some (.int .i64 ((ln[k] : Nat) : Int)) := by
  have hl : k < (natI ln).length := by rw [natI_len]; exact hk
  obtain ⟨a, e, hc⟩ := RdI.at_ (hd h.l.rd) hl
  exact ⟨a, e, by rw [← natI_get hk hl]; exact hc⟩
end
/-! ### Steps backwards -/
theorem flip_flip (q x : Nat) : (q ^^^ 2 ^ x) ^^^ 2 ^ x = q := by rw [Nat.xor_assoc, Nat.xor_self, Nat.xor_zero]
theorem flip_inj {b x y : Nat} (h : b ^^^ 2 ^ x = b ^^^ 2 ^ y) : x = y := by
  have e : 2 ^ x = 2 ^ y := by
    have := congrArg (fun z => b ^^^ z) h
    simpa [← Nat.xor_assoc] using this
  rcases Nat.lt_trichotomy x y with h1 | h1 | h1
  · have := Nat.pow_lt_pow_right (a := 2) (by decide) h1; omega
  · exact h1
  · have := Nat.pow_lt_pow_right (a := 2) (by decide) h1; omega
/-- A step from the flip of q at x to q. -/
theorem eP_flip {ds : List (List Int)} {n s q x : Nat} {rev : Bool} (hx : x < n) (hq : cnt q ≤ s) : eP ds n rev s (q ^^^ 2 ^ x) q = (decide (cnt (q ^^^ 2 ^ x) ≤ s) && okM ds rev (q ^^^ 2 ^ x) x) := by
  rw [Bool.eq_iff_iff, eP_iff, Bool.and_eq_true, decide_eq_true_iff]
  constructor
  · rintro ⟨h1, _, y, _, h3, h4⟩
    have : x = y := by
      apply flip_inj (b := q ^^^ 2 ^ x)
      rw [flip_flip]; exact h3
    subst this
    exact ⟨h1, h4⟩
  · rintro ⟨h1, h4⟩
    exact ⟨h1, hq, x, hx, (flip_flip q x).symm, h4⟩
theorem eP_from {ds : List (List Int)} {n s q P : Nat} {rev : Bool} (h : eP ds n rev s P q = true) : ∃ x, x < n ∧ P = q ^^^ 2 ^ x := by
  obtain ⟨_, _, x, hx, h3, _⟩ := eP_iff.1 h
  exact ⟨x, hx, by rw [h3, flip_flip]⟩
/-- Does a move of this kind lead from the flip back? -/
theorem mvZ_flip {ds : List (List Int)} {rev : Bool} {q x : Nat} {kd : Int} (hk : kd = 1 ∨ kd = 2) : mvZ ds rev (q ^^^ 2 ^ x) kd x = if (decide (kd = 1) != (q ^^^ 2 ^ x).testBit x) && okM ds rev (q ^^^ 2 ^ x) x then (q : Int) else -1 := by
  unfold mvZ okM
  rw [flip_flip]
  rcases hk with rfl | rfl
  · cases (q ^^^ 2 ^ x).testBit x <;> cases fedB ds (q ^^^ 2 ^ x) x <;> simp
  · cases (q ^^^ 2 ^ x).testBit x <;> cases fedB ds (q ^^^ 2 ^ x) x <;> cases rev <;> simp
namespace Peb
section
variable {E : Nat → Nat → Bool} {D : Nat → Bool} {M : Nat} {F : List Int} {ln : List Nat} {k : Nat} {S S' : Nat → Prop}
theorem Bfs.weak (h : Bfs E D M F ln k S) (hs : ∀ P, S' P → S P) : Bfs E D M F ln k S' :=
  ⟨h.fl, h.lt, h.a1, h.a2, h.so, h.c, h.e, fun hk P hP hS hE => h.s hk P hP (hs P hS) hE, h.z, h.kl, h.nd⟩
theorem Bfs.lenM (h : Bfs E D M F ln k S) : ln.length ≤ M := by
  have := nodup_le ln (List.range M) h.nd fun x hx => List.mem_range.2 (h.lt x hx)
  rwa [List.length_range] at this
/-- The search begins: the ends are in the queue. -/
theorem Bfs.start (hl : F.length = M) (hF : ∀ P, P < M → fa F P = if D P then 0 else -1) : Bfs E D M F ((List.range M).filter D) 0 (fun _ => False) := by
  have hm : ∀ P, P ∈ (List.range M).filter D ↔ P < M ∧ D P = true := fun P => by rw [List.mem_filter, List.mem_range]
  have h0 : ∀ P ∈ (List.range M).filter D, fa F P = 0 := fun P hP => by rw [hF P ((hm P).1 hP).1, if_pos ((hm P).1 hP).2]
  refine ⟨hl, fun P hP => ((hm P).1 hP).1, fun P hP => ⟨0, h0 P hP, ((hm P).1 hP).2, fun j hj => absurd hj (Nat.not_lt_zero _)⟩, fun P hP hn => ?_, fun i j hi hj _ => ?_, fun hk i hi => ?_, fun i _ hi => absurd hi (Nat.not_lt_zero _), fun _ _ _ hf _ => hf.elim, fun P hP hD => (hm P).2 ⟨hP, hD⟩, Nat.zero_le _, List.nodup_range.filter _⟩
  · rw [hF P hP, if_neg fun hD => hn ((hm P).2 ⟨hP, hD⟩)]
  · rw [h0 _ (List.getElem_mem hi), h0 _ (List.getElem_mem hj)]; exact Int.le_refl _
  · rw [h0 _ (List.getElem_mem hi), h0 _ (List.getElem_mem hk)]; decide
end
theorem Dst.le {E : Nat → Nat → Bool} {D : Nat → Bool} {M d P : Nat} (h : Dst E D M d P) (hP : P < M) : d ≤ M := by
  obtain ⟨l, h1, h2, h3⟩ := chain (I := fun _ => True) (fun _ _ _ _ _ _ => trivial) d P hP trivial h
  have := nodup_le l (List.range M) h2 fun x hx => List.mem_range.2 (h3 x hx).1
  rw [List.length_range] at this
  omega
/-- The state inside the kinds: after kind 1, and after kind 2. -/
structure Jst (ds : List (List Int)) (n : Nat) (rev : Bool) (s M : Nat) (F : List Int) (ln : List Nat) (k q x j : Nat) : Prop where
  base : Bfs (eP ds n rev s) (dP n rev s) M F ln k (fun b => ∃ y, y < x ∧ b = q ^^^ 2 ^ y)
  h1 : 1 ≤ j → (q ^^^ 2 ^ x).testBit x = false → Bfs (eP ds n rev s) (dP n rev s) M F ln k (fun b => (∃ y, y < x ∧ b = q ^^^ 2 ^ y) ∨ b = q ^^^ 2 ^ x)
  h2 : 2 ≤ j → Bfs (eP ds n rev s) (dP n rev s) M F ln k (fun b => (∃ y, y < x ∧ b = q ^^^ 2 ^ y) ∨ b = q ^^^ 2 ^ x)
section
variable {ds : List (List Int)} {n : Nat} {rev : Bool} {s M : Nat} {F : List Int} {ln : List Nat} {k q x j : Nat}
theorem Jst.skip (h : Jst ds n rev s M F ln k q x j) (hj : j < 2) (hk : k < ln.length) (hq : ln[k] = q) (hx : x < n) (hb : q ^^^ 2 ^ x < M) (hqs : cnt q ≤ s)
    (hn : cnt (q ^^^ 2 ^ x) ≤ s → fa F (q ^^^ 2 ^ x) < 0 → mvZ ds rev (q ^^^ 2 ^ x) ((j : Int) + 1) x ≠ (q : Int)) : Jst ds n rev s M F ln k q x (j + 1) := by
  by_cases hE : eP ds n rev s (q ^^^ 2 ^ x) ln[k] = false ∨ ¬ fa F (q ^^^ 2 ^ x) < 0
  · exact ⟨h.base, fun _ _ => h.base.skip hk hb hE, fun _ => h.base.skip hk hb hE⟩
  · have hE1 : eP ds n rev s (q ^^^ 2 ^ x) q = true := by
      cases he : eP ds n rev s (q ^^^ 2 ^ x) q
      · exact absurd (.inl (by rw [hq]; exact he)) hE
      · rfl
    have hf : fa F (q ^^^ 2 ^ x) < 0 := by
      by_cases hf : fa F (q ^^^ 2 ^ x) < 0
      · exact hf
      · exact absurd (.inr hf) hE
    rw [eP_flip hx hqs, Bool.and_eq_true, decide_eq_true_iff] at hE1
    have hm := hn hE1.1 hf
    rw [mvZ_flip (by omega), hE1.2, Bool.and_true] at hm
    have hd0 : (decide ((j : Int) + 1 = 1) != (q ^^^ 2 ^ x).testBit x) = false := by
      cases hd : (decide ((j : Int) + 1 = 1) != (q ^^^ 2 ^ x).testBit x)
      · rfl
      · rw [hd, if_pos rfl] at hm; exact absurd rfl hm
    refine ⟨h.base, fun _ hbit => ?_, fun h2 => ?_⟩
    · rw [hbit] at hd0
      have hj1 : ¬ (j : Int) + 1 = 1 := fun e => by rw [decide_eq_true e] at hd0; cases hd0
      exact h.h1 (by omega) hbit
    · have hj1 : ¬ (j : Int) + 1 = 1 := by omega
      rw [decide_eq_false hj1] at hd0
      exact h.h1 (by omega) (by simpa using hd0)
theorem Jst.push (h : Jst ds n rev s M F ln k q x j) (hj : j < 2) (hk : k < ln.length) (hq : ln[k] = q) (hx : x < n) (hb : q ^^^ 2 ^ x < M) (hqs : cnt q ≤ s)
    (hc : cnt (q ^^^ 2 ^ x) ≤ s) (hf : fa F (q ^^^ 2 ^ x) < 0) (hm : mvZ ds rev (q ^^^ 2 ^ x) ((j : Int) + 1) x = (q : Int)) :
    Jst ds n rev s M (F.set (q ^^^ 2 ^ x) (fa F q + 1)) (ln ++ [q ^^^ 2 ^ x]) k q x (j + 1) := by
  have hE : eP ds n rev s (q ^^^ 2 ^ x) ln[k] = true := by
    rw [hq, eP_flip hx hqs, decide_eq_true hc, Bool.true_and]
    rw [mvZ_flip (by omega)] at hm
    split at hm
    · rename_i h1
      rw [Bool.and_eq_true] at h1
      exact h1.2
    · omega
  have hp := h.base.push hk hb hE hf
  rw [hq] at hp
  exact ⟨hp.weak fun P hP => .inl hP, fun _ _ => hp, fun _ => hp⟩
end
end Peb
end Go.Proofs.Ytapgpjhogdmjbaa
