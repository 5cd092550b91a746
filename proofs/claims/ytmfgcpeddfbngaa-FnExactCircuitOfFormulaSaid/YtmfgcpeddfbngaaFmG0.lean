/-
  Lists of formulas: the words, append, compareFormulas. Condition: sizes up to 2^20.
-/
import Derived.Test.YtmfgcpeddfbngaaFmO
import Derived.Test.YtmfgcpeddfbngaaFmV
import Derived.Test.YtmfgcpeddfbngaaStrS
import Derived.Test.YtmfgcpeddfbngaaHo
import Derived.Shelf.Spec.SlicesGrow
import Derived.Shelf.SlSortCmp.Kit1
namespace Go.Proofs.Ytmfgcpeddfbngaa
open Go.RowKit Go.Sort
abbrev OwnS (w : World) (lo : Nat) (v : Value) (xs : List Bs) : Prop := Own w lo 9 1 v xs.length (strs xs)
theorem strs_one (xs : List Bs) : ∀ u ∈ strs xs, u.oneCell' = true := by
  intro u hu
  obtain ⟨x, _, rfl⟩ := List.mem_map.1 hu
  rfl
theorem strs_append (xs ys : List Bs) : strs (xs ++ ys) = strs xs ++ strs ys := by simp [strs]
section
variable {w : World} {ops : Array Oper} {rest : List Oper} {o : Oper} {a : Act} {Q : Exit → Act → World → Prop}
/-- append(v, src...), strings. -/
theorem appSS (w : World) {v src : Value} {xs ys : List Bs} {base : Nat} (hown : OwnS w base v xs) (hsrc : Rd_StringS w src ys) (hgd : o.guard = none) (s x : Operand)
    (ho : o.op = .call { callee := .builtin .append, args := #[s, x], argTypes := #[22, 22] })
    (hs : a.eval s = v) (hx : a.eval x = src) (hn : xs.length + ys.length ≤ 2147483648) (hbase : base ≤ w.heap.size)
    (h : ∀ v' w', OwnS w' base v' (xs ++ ys) → w.grownBy w' v.ownBlock → (v'.ownBlock = v.ownBlock ∨ v'.ownBlock = some w.heap.size) → wpList Try.prog ops Q rest (a.put o.dst v') w') :
    wpList Try.prog ops Q (o :: rest) a w :=
  wpList_plain hgd fun K hK => wp_app w s x 22 ho base 9 Try.underlying22 info_string (by decide) rfl (by decide) hown hsrc (strs_one _) hs hx hn hbase fun v' w' h1 h2 h3 =>
    hK _ _ (h v' w' (by unfold OwnS; rw [strs_append, List.length_append]; exact h1) h2 h3)
/-- The same at a step of a region that draws its order. -/
theorem stepSS {K : Act → World → Prop} {E : Prop} (w : World) {v src : Value} {xs ys : List Bs} {base : Nat} (hown : OwnS w base v xs) (hsrc : Rd_StringS w src ys) (hgd : o.guard = none) (s x : Operand)
    (ho : o.op = .call { callee := .builtin .append, args := #[s, x], argTypes := #[22, 22] })
    (hs : a.eval s = v) (hx : a.eval x = src) (hn : xs.length + ys.length ≤ 2147483648) (hbase : base ≤ w.heap.size)
    (h : ∀ v' w', OwnS w' base v' (xs ++ ys) → w.grownBy w' v.ownBlock → (v'.ownBlock = v.ownBlock ∨ v'.ownBlock = some w.heap.size) → K (a.put o.dst v') w') :
    if Region.wanted o (yielded ops a.tmps) = true then Oper.wp Try.prog o a w K Q else E := by
  have hw : Region.wanted o (yielded ops a.tmps) = true := by simp [Region.wanted, hgd]
  rw [if_pos hw]
  exact wp_app w s x 22 ho base 9 Try.underlying22 info_string (by decide) rfl (by decide) hown hsrc (strs_one _) hs hx hn hbase fun v' w' h1 h2 h3 =>
    h v' w' (by unfold OwnS; rw [strs_append, List.length_append]; exact h1) h2 h3
end
theorem ownS_ge {w : World} {lo : Nat} {v : Value} {xs : List Bs} (h : OwnS w lo v xs) : ∀ g, v.ownBlock = some g → lo ≤ g := fun g hg => (own_blocks h g hg).1
set_option maxHeartbeats 1600000 in
theorem i_compareFormulas (x y : Bs) (w : World) : Calls Try.prog 58 #[encStr x, encStr y] w (fun e w' => e = .returned (.int .i64 (cmpL x y)) ∧ ∃ q os, w' = grow (w.drewN q) os) := by
  have HF : Hid (cmpL x y = orG [cmpI x.length y.length, Lib.compareBytes x y]) := hd rfl
  show Calls Try.prog 58 #[.string ⟨x.toArray⟩, .string ⟨y.toArray⟩] w _
  go_enter Try.func58, Try.ntmps58
  go_wp2_with (first
      | (go_at_call 83; refine (c_cmp_Compare (x.length : Int) (y.length : Int) _).mono ?_; rintro e w1 ⟨rfl, rfl⟩)
      | (go_at_call 84; refine (c_strings_Compare ⟨x.toArray⟩ ⟨y.toArray⟩ _).mono ?_; rintro e w1 ⟨rfl, rfl⟩)
      | (go_at_call 82; refine (c_cmp_Or [cmpI x.length y.length, Lib.compareBytes x y] _ _ ?_ (by simp)).mono ?_
         · exact rdI_two (heap_alloc_new _ _)
         rintro e w4 ⟨rfl, rfl⟩))
  go_ret
  exact ⟨by rw [HF.out]; rfl, 0, #[.cells #[.int .i64 (cmpI x.length y.length), .int .i64 (Lib.compareBytes x y)] 3], by rw [show w.drewN 0 = w from rfl]; unfold grow; rw [Array.append_singleton]; rfl⟩
theorem grow_ext (w : World) (q : Nat) (os : Array Obj) : Ext w (grow (w.drewN q) os) := by
  refine ⟨rfl, rfl, rfl, ?_, fun k hk => ?_⟩
  · unfold grow; simp
  · unfold grow; simp [Array.getElem?_append, hk]
theorem i_compareFormulasX (x y : Bs) (w : World) : Calls Try.prog 58 #[.string ⟨x.toArray⟩, .string ⟨y.toArray⟩] w (RetX w (.int .i64 (cmpL x y))) := by
  refine (i_compareFormulas x y w).mono ?_
  rintro e w' ⟨rfl, q, os, rfl⟩
  exact RetX.mk rfl (grow_ext _ _ _)
theorem rdS_one {w : World} {b : Nat} {s : Bs} {e : TypeId} {fr : Nat × Nat} (h : w.heap[b]? = some (.cells #[.string ⟨s.toArray⟩] e fr)) : Rd_StringS w (.slice (some ⟨b, 0, none⟩) 1 1) [s] := by
  refine ⟨rfl, some ⟨b, 0, none⟩, 1, rfl, Nat.le_refl _, by unfold maxLen; omega, fun j x hx => ⟨_, rfl, ?_⟩⟩
  exact World.news_of_block h j x hx
end Go.Proofs.Ytmfgcpeddfbngaa
