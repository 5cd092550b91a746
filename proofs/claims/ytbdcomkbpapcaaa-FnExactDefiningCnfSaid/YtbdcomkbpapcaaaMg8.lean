import Derived.Test.YtbdcomkbpapcaaaFamZ
import Derived.Test.YtbdcomkbpapcaaaFamB
import Derived.Test.YtbdcomkbpapcaaaGood
import Derived.Deep.RegionHeld3
/-
  The family of clauses: append of rows of the call's own at a step of a region that draws its order. Conditions: up to 2^30 rows.
-/
/-
  The family of clauses made a formula: (*family).cnf of a valid one. Conditions: sizes up to 2^20.
-/
/-
  What a function with a formula and a bool ends in. No condition.
-/

namespace Go.Proofs.Ytbdcomkbpapcaaa
open Go.RowKit
section
variable {w0 w wa : World} {bx lo lo2 : Nat} {T : TypeId} {n : Int} {ov src : Value} {xss : List (List Int)} {zs : List Row}
/-- append of rows of the call's own to the family's lists, at a step of a region that draws its order. -/
theorem stepFY {K : Act → World → Prop} {E : Prop} {ops : Array Oper} {o : Oper} {a : Act} {Q : Exit → Act → World → Prop} (h : FamB w0 w bx T n lo ov xss) (hT : T ≠ 57) (hT2 : T ≠ 3) (ha : Ext w wa) (hz : RowsZ wa lo2 wa.heap.size zs) (hl : w.heap.size ≤ lo2) (hsrc : Rd wa 1 src zs.length (zs.map Prod.fst)) (hgd : o.guard = none) (s x : Operand)
    (ho : o.op = .call { callee := .builtin .append, args := #[s, x], argTypes := #[22, 22] })
    (hs : a.eval s = ov) (hx : a.eval x = src) (hn : xss.length + zs.length ≤ 2147483648)
    (k : ∀ L A c w1, Hid (L = xss.length + zs.length) → w1.heap[bx]? = some (.cells #[.int .i64 n, ov] T (0, 0)) → Hid (FamB w0 (w1.setCell ⟨bx, 1, none⟩ (.slice A L c)) bx T n lo (.slice A L c) (xss ++ zs.map Prod.snd)) → Ext w0 w1 → K (a.put o.dst (.slice A L c)) w1) :
    if Region.wanted o (yielded ops a.tmps) = true then Oper.wp Try.prog o a wa K Q else E := by
  obtain ⟨ys, hys, hO, hZ⟩ := h.own.rows
  have hlen : xss.length = ys.length := by rw [hys, List.length_map]
  refine stepZ wa (own_ext hO ha) hsrc hz.one' hgd s x ho hs hx (by omega) (Nat.le_trans h.low ha.size) fun v' w1 k1 k2 _ => ?_
  obtain ⟨A, c, rfl, -⟩ := OutZ.form k1
  have hB := h.blk1 hT ha k2
  have hR : RowsZ wa lo wa.heap.size (ys ++ zs) := (hZ.ext ha).cat hz (Nat.le_trans h.low hl) hl ha.size
  have hR1 : RowsZ w1 lo w1.heap.size (ys ++ zs) := (hR.grownO (own_ext hO ha) k2).hi_size
  have hF := h.put hT hT2 ha (hR1.ssz k1) k2
  rw [List.map_append, ← hys] at hF
  exact k _ A c w1 (hd (by rw [List.length_append, hlen])) hB (hd hF) (ext_appS (h.ext.trans ha) k2 h.own_low)
end
theorem ownI_litY (W : World) {base : Nat} (x : Int) (hb : base ≤ W.heap.size) : OwnI (W.alloc (.cells #[.int .i64 x] 3)) base 3 (.slice (some ⟨W.heap.size, 0, none⟩) 1 1) [x] :=
  own_lit W base 3 1 #[.int .i64 x] 1 hb (by unfold maxLen; omega) rfl
end Go.Proofs.Ytbdcomkbpapcaaa
namespace Go.Proofs.Ytbdcomkbpapcaaa
open Go.RowKit
theorem ext_set {a w : World} (h : Ext a w) {g i : Nat} (hg : a.heap.size ≤ g) (u : Value) : Ext a (w.setCell ⟨g, i, none⟩ u) :=
  ext_appS (v := .slice (some ⟨g, 0, none⟩) 0 0) h (grown_set (grown_refl w (some g)) i u) (fun x hx => by obtain rfl : g = x := Option.some.inj hx; exact hg)
theorem keep2 {w W : World} {p q : Addr} {u v : Value} (h : Ext w W) (c0 : w.cell? p = some u) (c1 : w.cell? q = some v) : (W.cell? p = some u ∧ W.cell? q = some v) ∧ Ext w W := ⟨⟨h.cell c0, h.cell c1⟩, h⟩
theorem blk2_set {w : World} {b : Nat} {x y x' y' : Value} {e : TypeId} (h : w.heap[b]? = some (.cells #[x, y] e)) : ((w.setCell ⟨b, 0, none⟩ x').setCell ⟨b, 1, none⟩ y').heap[b]? = some (.cells #[x', y'] e) := blk2_set1 (blk2_set0 h)
theorem ownSS_nil (w : World) (lo hi : Nat) (eS eI : TypeId) : OwnSS w lo hi eS eI (.slice none 0 0) [] :=
  ⟨[], ⟨rfl, .inl ⟨rfl, rfl⟩⟩, (fun g hg => by cases hg), rfl, (fun i u xs h => by simp at h), (fun i j u u' g _ h => by simp at h)⟩
end Go.Proofs.Ytbdcomkbpapcaaa
namespace Go.Proofs.Ytbdcomkbpapcaaa
open Go.RowKit
def RetN (w : World) (f : Cnf) (q : Bool) : Ending → World → Prop := fun e w' => ∃ u, e = .returned (.tuple #[u, .bool q]) ∧ Own_Cnf w' w.heap.size w'.heap.size u f ∧ Ext w w'
theorem RetN.zero {w w' : World} {f : Cnf} {q : Bool} (hf : Hid (f = ⟨0, []⟩)) (hx : Ext w w') (hq : q = false) : RetN w f q (.returned (.tuple #[.agg #[.int .i64 0, .slice none 0 0], .bool false])) w' := by
  subst hq
  rw [hf.out]
  exact ⟨_, rfl, ⟨_, rfl, ownSS_nil _ _ _ _ _⟩, hx⟩
end Go.Proofs.Ytbdcomkbpapcaaa
