import Derived.Test.YtbdcomkbpapcaaaFmQ
import Derived.Test.YtbdcomkbpapcaaaFmJ
import Derived.Test.YtbdcomkbpapcaaaMg2
import Derived.Test.YtbdcomkbpapcaaaLaw
import Derived.IntWalk
import Derived.BigQuiet
import Derived.Test.YtbdcomkbpapcaaaApp2
import Derived.Test.YtbdcomkbpapcaaaLays
import Derived.Shelf.Slices.CompactS
import Derived.Sort.OwnSorted
import Derived.Lib.OwnBridge
import Derived.Test.YtbdcomkbpapcaaaFmO
import Derived.Shelf.Spec.SlicesGrow
import Derived.Shelf.SlSortCmp.Kit1
/-
  The value of a formula for bits, both sides. Condition: bits below 64, texts up to 2^20.
-/
/-
  The text of a mark. No condition but the number's size.
-/
/-
  Slices of strings: the words, the laws' helpers on them, append, and slices.Compact. Conditions: sizes up to 2^20.
-/
/-
  Lists of formulas: the words, append, compareFormulas. Condition: sizes up to 2^20.
-/

namespace Go.Proofs.Ytbdcomkbpapcaaa
open Go.RowKit
theorem valF_leaf {b : Nat} {c : UInt8} (h1 : c.toNat ≠ 48) (h2 : c.toNat ≠ 49) : valF b (.leaf c) = (bitN b (c.toNat - 97) == 1) := by
  unfold valF
  rw [if_neg (fun h => h1 (by rw [h]; rfl)), if_neg (fun h => h2 (by rw [h]; rfl))]
  rfl
theorem txt_kids {a b : Fm} {o : UInt8} {n : Nat} (h : (txt (.bin o a b)).length ≤ n) : (txt a).length ≤ n ∧ (txt b).length ≤ n := by
  simp [txt] at h; omega
theorem txt_kid {a : Fm} {n : Nat} (h : (txt (.neg a)).length ≤ n) : (txt a).length ≤ n := by
  simp [txt] at h; omega
theorem wf_bin {a b : Fm} {o : UInt8} (h : WfF (.bin o a b) = true) : isOp o = true ∧ WfF a = true ∧ WfF b = true := by
  have h : (isOp o && (WfF a && WfF b)) = true := h
  simpa [Bool.and_eq_true] using h
theorem bool_int (z : Nat) : ((z : Int) == 1) = (z == 1) := by rw [Bool.eq_iff_iff]; simp; omega
end Go.Proofs.Ytbdcomkbpapcaaa
namespace Go.Proofs.Ytbdcomkbpapcaaa
open Go.RowKit
section
variable {P : Program} {f : FuncId} {args : Array Value} {w : World} {v v' : Value}
theorem rvz (h : Calls P f args w (RetX w v)) (e : Hid (v = v')) : Calls P f args w (RetX w v') := by have := e.out; subst this; exact h
end
def digB (k : Nat) : ByteArray := ⟨#[UInt8.ofNat (48 + k % 10)]⟩
def markG (k : Nat) (acc : ByteArray) : ByteArray := if h : k = 0 then acc else markG (k / 10) (digB k ++ acc)
termination_by k
decreasing_by omega
def markT (k : Int) : ByteArray := if k ≤ 0 then ⟨#[109, 48]⟩ else ⟨#[109]⟩ ++ markG k.toNat .empty
theorem markG_size (k : Nat) : ∀ acc : ByteArray, (markG k acc).size ≤ acc.size + k := by
  induction k using Nat.strongRecOn with
  | ind k ih =>
    intro acc
    unfold markG
    by_cases h : k = 0
    · rw [dif_pos h]; omega
    · rw [dif_neg h]
      have h1 := ih (k / 10) (by omega) (digB k ++ acc)
      have h2 : (digB k ++ acc).size = acc.size + 1 := by rw [ByteArray.size_append]; show 1 + acc.size = _; omega
      omega
end Go.Proofs.Ytbdcomkbpapcaaa
namespace Go.Proofs.Ytbdcomkbpapcaaa
open Go.RowKit Go.Sort
/-- Names as lists of bytes. -/
def strs (xs : List (List UInt8)) : List Value := xs.map encStr
@[simp] theorem length_strs (xs : List (List UInt8)) : (strs xs).length = xs.length := by simp [strs]
theorem strs_get {xs : List (List UInt8)} {k : Nat} (h : k < xs.length) : (strs xs)[k]? = some (.string ⟨xs[k].toArray⟩) := by simp [strs, h]
theorem enc_of (s : ByteArray) : encStr s.data.toList = .string s := by
  obtain ⟨⟨l⟩⟩ := s
  rfl
def Rd_StringS (w : World) (v : Value) (xs : List (List UInt8)) : Prop := Rd w 1 v xs.length (strs xs)
def Own_StringS (w : World) (lo hi : Nat) (v : Value) (xs : List (List UInt8)) : Prop := Own w lo 9 1 v xs.length (strs xs) ∧ (∀ b, v.ownBlock = some b → b < hi)
def Bd_StringS (xs : List (List UInt8)) : Prop := xs.length ≤ 1048576
section
variable {w w' : World} {lo hi : Nat} {v : Value} {xs : List (List UInt8)}
theorem Rd_StringS.ext (h : Rd_StringS w v xs) (he : Ext w w') : Rd_StringS w' v xs := Rd.ext h he
theorem Rd_StringS.form (h : Rd_StringS w v xs) : ∃ A c, v = .slice A xs.length c ∧ xs.length ≤ c ∧ c ≤ maxLen ∧ Hid (Rd_StringS w (.slice A xs.length c) xs) := by
  have h' := h
  obtain ⟨hl, A, c, hv, h1, h2, _⟩ := h'
  subst hv
  exact ⟨A, c, rfl, h1, h2, hd h⟩
theorem Rd_StringS.at_ {A : Option Addr} {n c : Nat} (h : Hid (Rd_StringS w (.slice A n c) xs)) {k : Nat} (hk : k < xs.length) : ∃ a, A = some a ∧ w.cell? (a.add k) = some (.string ⟨xs[k].toArray⟩) := by
  obtain ⟨hl, A', c', hv, h1, h2, hc⟩ := h.out
  obtain ⟨a, ha, hcell⟩ := hc k _ (strs_get hk)
  injection hv with hA _ _
  exact ⟨a, hA.trans ha, hcell⟩
theorem Own_StringS.ext (h : Own_StringS w lo hi v xs) (he : Ext w w') : Own_StringS w' lo hi v xs := ⟨own_ext h.1 he, h.2⟩
theorem Own_StringS.rd (h : Own_StringS w lo hi v xs) : Rd_StringS w v xs := own_rd h.1
theorem Own_StringS.touch {lo' hi' : Nat} (h : Own_StringS w lo hi v xs) (ht : Touch lo' hi' w w') (hd : hi ≤ lo' ∨ hi' ≤ lo) : Own_StringS w' lo hi v xs :=
  ⟨own_touch h.1 ht fun b hb => by have := h.2 b hb; have := (own_blocks h.1 b hb).1; omega, h.2⟩
end
section
variable {ops : Array Oper} {rest : List Oper} {o : Oper} {a : Act} {Q : Exit → Act → World → Prop}
theorem info_string : (Try.prog.info? 9).map (fun i => (i.zero, i.size, i.bytes)) = some (some (.string .empty), 1, 16) := by kernel_rfl
/-- append(v, s), strings. -/
theorem appS (w : World) {nb : Nat} {v : Value} {xs : List (List UInt8)} {base : Nat} (hown : Own w base 9 1 v xs.length (strs xs)) (hgd : o.guard = none) (s x : Operand)
    (ho : o.op = .call { callee := .builtin .append, args := #[s, x], argTypes := #[80, 80] })
    (u : ByteArray) (hs : a.eval s = v) (hx : a.eval x = .slice (some ⟨nb, 0, none⟩) 1 1) (hnb : w.heap.size = nb) (hn : xs.length ≤ 1073741824) (hbase : base ≤ w.heap.size)
    (h : ∀ v' w', Own w' base 9 1 v' (xs ++ [u.data.toList]).length (strs (xs ++ [u.data.toList])) → (w.alloc (.cells #[.string u] 9)).grownBy w' v.ownBlock → (v'.ownBlock = v.ownBlock ∨ v'.ownBlock = some (w.heap.size + 1)) → wpList Try.prog ops Q rest (a.put o.dst v') w') :
    wpList Try.prog ops Q (o :: rest) a (w.alloc (.cells #[.string u] 9)) := by
  subst hnb
  refine wpList_app1 w hgd s x 80 ho 9 Try.underlying80 info_string (by decide) rfl base v xs.length (strs xs) hs hown (.string u) hx rfl hn hbase fun v' w' k1 k2 k3 => h v' w' ?_ k2 k3
  have e : strs (xs ++ [u.data.toList]) = strs xs ++ [.string u] := by
    unfold strs
    rw [List.map_append, List.map_singleton, enc_of]
  rw [e, List.length_append]
  exact k1
end
end Go.Proofs.Ytbdcomkbpapcaaa
namespace Go.Proofs.Ytbdcomkbpapcaaa
open Go.RowKit Go.Sort
abbrev OwnS (w : World) (lo : Nat) (v : Value) (xs : List Bs) : Prop := Own w lo 9 1 v xs.length (strs xs)
theorem strs_one (xs : List Bs) : ∀ u ∈ strs xs, u.oneCell' = true := by
  intro u hu
  obtain ⟨x, _, rfl⟩ := List.mem_map.1 hu
  rfl
theorem strs_append (xs ys : List Bs) : strs (xs ++ ys) = strs xs ++ strs ys := by simp [strs]
section
variable {w : World} {ops : Array Oper} {rest : List Oper} {o : Oper} {a : Act} {Q : Exit → Act → World → Prop}
/-- append(v, src...), strings. -/
theorem appSS (w : World) {v src : Value} {xs ys : List Bs} {base : Nat} (hown : OwnS w base v xs) (hsrc : Rd_StringS w src ys) (hgd : o.guard = none) (s x : Operand)
    (ho : o.op = .call { callee := .builtin .append, args := #[s, x], argTypes := #[80, 80] })
    (hs : a.eval s = v) (hx : a.eval x = src) (hn : xs.length + ys.length ≤ 2147483648) (hbase : base ≤ w.heap.size)
    (h : ∀ v' w', OwnS w' base v' (xs ++ ys) → w.grownBy w' v.ownBlock → (v'.ownBlock = v.ownBlock ∨ v'.ownBlock = some w.heap.size) → wpList Try.prog ops Q rest (a.put o.dst v') w') :
    wpList Try.prog ops Q (o :: rest) a w :=
  wpList_plain hgd fun K hK => wp_app w s x 80 ho base 9 Try.underlying80 info_string (by decide) rfl (by decide) hown hsrc (strs_one _) hs hx hn hbase fun v' w' h1 h2 h3 =>
    hK _ _ (h v' w' (by unfold OwnS; rw [strs_append, List.length_append]; exact h1) h2 h3)
/-- The same at a step of a region that draws its order. -/
theorem stepSS {K : Act → World → Prop} {E : Prop} (w : World) {v src : Value} {xs ys : List Bs} {base : Nat} (hown : OwnS w base v xs) (hsrc : Rd_StringS w src ys) (hgd : o.guard = none) (s x : Operand)
    (ho : o.op = .call { callee := .builtin .append, args := #[s, x], argTypes := #[80, 80] })
    (hs : a.eval s = v) (hx : a.eval x = src) (hn : xs.length + ys.length ≤ 2147483648) (hbase : base ≤ w.heap.size)
    (h : ∀ v' w', OwnS w' base v' (xs ++ ys) → w.grownBy w' v.ownBlock → (v'.ownBlock = v.ownBlock ∨ v'.ownBlock = some w.heap.size) → K (a.put o.dst v') w') :
    if Region.wanted o (yielded ops a.tmps) = true then Oper.wp Try.prog o a w K Q else E := by
  have hw : Region.wanted o (yielded ops a.tmps) = true := by simp [Region.wanted, hgd]
  rw [if_pos hw]
  exact wp_app w s x 80 ho base 9 Try.underlying80 info_string (by decide) rfl (by decide) hown hsrc (strs_one _) hs hx hn hbase fun v' w' h1 h2 h3 =>
    h v' w' (by unfold OwnS; rw [strs_append, List.length_append]; exact h1) h2 h3
end
theorem ownS_ge {w : World} {lo : Nat} {v : Value} {xs : List Bs} (h : OwnS w lo v xs) : ∀ g, v.ownBlock = some g → lo ≤ g := fun g hg => (own_blocks h g hg).1
set_option maxHeartbeats 1600000 in
theorem i_compareFormulas (x y : Bs) (w : World) : Calls Try.prog 96 #[encStr x, encStr y] w (fun e w' => e = .returned (.int .i64 (cmpL x y)) ∧ ∃ q os, w' = grow (w.drewN q) os) := by
  have HF : Hid (cmpL x y = orG [cmpI x.length y.length, Lib.compareBytes x y]) := hd rfl
  show Calls Try.prog 96 #[.string ⟨x.toArray⟩, .string ⟨y.toArray⟩] w _
  go_enter Try.func96, Try.ntmps96
  go_wp2_with (first
      | (go_at_call 135; refine (c_cmp_Compare (x.length : Int) (y.length : Int) _).mono ?_; rintro e w1 ⟨rfl, rfl⟩)
      | (go_at_call 136; refine (c_strings_Compare ⟨x.toArray⟩ ⟨y.toArray⟩ _).mono ?_; rintro e w1 ⟨rfl, rfl⟩)
      | (go_at_call 134; refine (c_cmp_Or [cmpI x.length y.length, Lib.compareBytes x y] _ _ ?_ (by simp)).mono ?_
         · exact rdI_two (heap_alloc_new _ _)
         rintro e w4 ⟨rfl, rfl⟩))
  go_ret
  exact ⟨by rw [HF.out]; rfl, 0, #[.cells #[.int .i64 (cmpI x.length y.length), .int .i64 (Lib.compareBytes x y)] 3], by rw [show w.drewN 0 = w from rfl]; unfold grow; rw [Array.append_singleton]; rfl⟩
theorem grow_ext (w : World) (q : Nat) (os : Array Obj) : Ext w (grow (w.drewN q) os) := by
  refine ⟨rfl, rfl, rfl, ?_, fun k hk => ?_⟩
  · unfold grow; simp
  · unfold grow; simp [Array.getElem?_append, hk]
theorem i_compareFormulasX (x y : Bs) (w : World) : Calls Try.prog 96 #[.string ⟨x.toArray⟩, .string ⟨y.toArray⟩] w (RetX w (.int .i64 (cmpL x y))) := by
  refine (i_compareFormulas x y w).mono ?_
  rintro e w' ⟨rfl, q, os, rfl⟩
  exact RetX.mk rfl (grow_ext _ _ _)
theorem rdS_one {w : World} {b : Nat} {s : Bs} {e : TypeId} {fr : Nat × Nat} (h : w.heap[b]? = some (.cells #[.string ⟨s.toArray⟩] e fr)) : Rd_StringS w (.slice (some ⟨b, 0, none⟩) 1 1) [s] := by
  refine ⟨rfl, some ⟨b, 0, none⟩, 1, rfl, Nat.le_refl _, by unfold maxLen; omega, fun j x hx => ⟨_, rfl, ?_⟩⟩
  exact World.news_of_block h j x hx
end Go.Proofs.Ytbdcomkbpapcaaa
