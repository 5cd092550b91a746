import Derived.Test.YtbdcomkbpapcaaaRowz
/-
  The family of clauses: append of rows of the call's own at a plain step. Conditions: up to 2^30 rows.
-/

namespace Go.Proofs.Ytbdcomkbpapcaaa
open Go.RowKit
section
variable {w0 w wa : World} {bx lo lo2 : Nat} {T : TypeId} {n : Int} {ov src : Value} {xss : List (List Int)} {zs : List Row}
theorem outZ_emp0 {W : World} {b lo : Nat} (h : W.heap[b]? = some (.cells #[] 57 (0, 0))) (hb : lo ≤ b) : OutZ W lo (.slice (some ⟨b, 0, none⟩) 0 0) [] :=
  ⟨rfl, .inr ⟨b, 0, #[], rfl, hb, h, Nat.le_refl _, Nat.zero_le _, rfl, rfl⟩⟩
theorem ownSS_emp0 {W : World} {b lo : Nat} (h : W.heap[b]? = some (.cells #[] 57 (0, 0))) (hb : lo ≤ b) : OwnSS W lo W.heap.size 57 3 (.slice (some ⟨b, 0, none⟩) 0 0) [] := (RowsZ.nil _ _ _).ssz (zs := []) (outZ_emp0 h hb)
theorem appFZ {ops : Array Oper} {rest : List Oper} {o : Oper} {a : Act} {Q : Exit → Act → World → Prop} (h : FamB w0 w bx T n lo ov xss) (hT : T ≠ 57) (hT2 : T ≠ 3) (ha : Ext w wa) (hz : RowsZ wa lo2 wa.heap.size zs) (hl : w.heap.size ≤ lo2) (hsrc : Rd wa 1 src zs.length (zs.map Prod.fst)) (hgd : o.guard = none) (s x : Operand)
    (ho : o.op = .call { callee := .builtin .append, args := #[s, x], argTypes := #[22, 22] })
    (hs : a.eval s = ov) (hx : a.eval x = src) (hn : xss.length + zs.length ≤ 2147483648)
    (k : ∀ L A c w1, Hid (L = xss.length + zs.length) → w1.heap[bx]? = some (.cells #[.int .i64 n, ov] T (0, 0)) → Hid (FamB w0 (w1.setCell ⟨bx, 1, none⟩ (.slice A L c)) bx T n lo (.slice A L c) (xss ++ zs.map Prod.snd)) → Ext w0 w1 → wa.grownBy w1 ov.ownBlock → wpList Try.prog ops Q rest (a.put o.dst (.slice A L c)) w1) :
    wpList Try.prog ops Q (o :: rest) a wa := by
  obtain ⟨ys, hys, hO, hZ⟩ := h.own.rows
  have hlen : xss.length = ys.length := by rw [hys, List.length_map]
  refine appZ wa (own_ext hO ha) hsrc hz.one' hgd s x ho hs hx (by omega) (Nat.le_trans h.low ha.size) fun v' w1 k1 k2 _ => ?_
  obtain ⟨A, c, rfl, -⟩ := OutZ.form k1
  have hB := h.blk1 hT ha k2
  have hR : RowsZ wa lo wa.heap.size (ys ++ zs) := (hZ.ext ha).cat hz (Nat.le_trans h.low hl) hl ha.size
  have hR1 : RowsZ w1 lo w1.heap.size (ys ++ zs) := (hR.grownO (own_ext hO ha) k2).hi_size
  have hF := h.put hT hT2 ha (hR1.ssz k1) k2
  rw [List.map_append, ← hys] at hF
  exact k _ A c w1 (hd (by rw [List.length_append, hlen])) hB (hd hF) (ext_appS (h.ext.trans ha) k2 h.own_low) k2
end
theorem OwnI.some_ {w : World} {lo : Nat} {e : TypeId} {v : Value} {xs : List Int} (h : OwnI w lo e v xs) (hn : 0 < xs.length) : ∃ a c, v = .slice (some a) xs.length c := by
  obtain ⟨A, c, rfl, h1, h2, ha⟩ := h.rd.form
  obtain ⟨a, e, _⟩ := RdI.at_ ha hn
  exact ⟨a, c, by rw [e]⟩
end Go.Proofs.Ytbdcomkbpapcaaa
