/-
  SwapSides: the words and the plain law. Conditions: sizes up to 2^20.
-/
import Derived.Test.YtlegfibfjhfkhaaSwapS
namespace Go.Proofs.Ytlegfibfjhfkhaa
open Go.RowKit
def swapV (f : Cnf) (k : Int) : Cnf := if askB f k then ⟨f.n, f.cs.drop k.toNat ++ f.cs.take k.toNat⟩ else ⟨0, []⟩
def swapN (f : Cnf) (k : Int) : Int := if askB f k then (f.cs.length : Int) - k else 0
theorem sumN_rot (ns : List Nat) (k : Nat) : sumN (ns.drop k ++ ns.take k) = sumN ns := by
  rw [sumN_append, Nat.add_comm, ← sumN_append, List.take_append_drop]
theorem swapV_bd {f : Cnf} (k : Int) (b : Bd_Cnf f) : Bd_Cnf (swapV f k) := by
  unfold swapV
  split
  · obtain ⟨h1, h2, h3⟩ := b
    refine ⟨?_, ?_, ?_⟩
    · simp only [List.length_append, List.length_drop, List.length_take]; omega
    · intro xs hx
      rcases List.mem_append.1 hx with h | h
      · exact h2 xs (List.mem_of_mem_drop h)
      · exact h2 xs (List.mem_of_mem_take h)
    · show sumN (lens (f.cs.drop k.toNat ++ f.cs.take k.toNat)) ≤ 1048576
      have : lens (f.cs.drop k.toNat ++ f.cs.take k.toNat) = (lens f.cs).drop k.toNat ++ (lens f.cs).take k.toNat := by simp [lens]
      rw [this, sumN_rot]
      exact h3
  · exact ⟨by simp, by simp, by simp [lens, sumN]⟩
theorem Inner.rot {w : World} {lo hi : Nat} {e : TypeId} {us vs : List Value} {xs ys : List (List Int)} (h : Inner w lo hi e (us ++ vs) (xs ++ ys)) (hl : us.length = xs.length) : Inner w lo hi e (vs ++ us) (ys ++ xs) := by
  obtain ⟨h1, h2, h3⟩ := h
  have hl2 : vs.length = ys.length := by simp at h1; omega
  have g : ∀ {α : Type} (a b : List α) (i : Nat) (x : α), (b ++ a)[i]? = some x → (a ++ b)[if i < b.length then a.length + i else i - b.length]? = some x := by
    intro α a b i x h
    split
    · rename_i hi
      rw [List.getElem?_append_left hi] at h
      rw [List.getElem?_append_right (by omega), Nat.add_sub_cancel_left]
      exact h
    · rename_i hi
      rw [List.getElem?_append_right (by omega)] at h
      have := (List.getElem?_eq_some_iff.1 h).1
      rw [List.getElem?_append_left this]
      exact h
  refine ⟨by simp [hl, hl2], fun i u zs a b => h2 _ u zs (g us vs i u a) ?_, fun i j u u' gg hij a b => h3 _ _ u u' gg ?_ (g us vs i u a) (g us vs j u' b)⟩
  · have := g xs ys i zs b
    rw [← hl, ← hl2] at this
    exact this
  · have hi := (List.getElem?_eq_some_iff.1 a).1
    have hj := (List.getElem?_eq_some_iff.1 b).1
    rw [List.length_append] at hi hj
    split <;> split <;> omega
theorem rd_takeV {w : World} {a : Addr} {n c k : Nat} {vs : List Value} (h : Rd w 1 (.slice (some a) n c) n vs) (hk : k ≤ n) : Rd w 1 (.slice (some a) k c) k (vs.take k) := by
  obtain ⟨hl, A', c', hv, h1, h2, hc⟩ := h
  injection hv with e1 e2 e3
  subst e1; subst e3
  refine ⟨by simp; omega, some a, c, rfl, by omega, h2, fun j u hu => ?_⟩
  have hj := (List.getElem?_eq_some_iff.1 hu).1
  simp at hj
  exact hc j u (by rw [← hu, List.getElem?_take_of_lt (by omega)])
theorem rd_dropV {w : World} {a : Addr} {n c k : Nat} {vs : List Value} (h : Rd w 1 (.slice (some a) n c) n vs) (hk : k ≤ n) : Rd w 1 (.slice (some (a.add k)) (n - k) (c - k)) (n - k) (vs.drop k) := by
  obtain ⟨hl, A', c', hv, h1, h2, hc⟩ := h
  injection hv with e1 e2 e3
  subst e1; subst e3
  refine ⟨by simp; omega, some (a.add k), c - k, rfl, by omega, by omega, fun j u hu => ⟨_, rfl, ?_⟩⟩
  rw [List.getElem?_drop] at hu
  obtain ⟨a', ha', hcell⟩ := hc (k + j) u hu
  injection ha' with ha'
  subst ha'
  rw [add_add]
  exact hcell
theorem rd_emptyV {w : World} {A : Option Addr} {c : Nat} (hc : c ≤ maxLen) : Rd w 1 (.slice A 0 c) 0 [] := ⟨rfl, A, c, rfl, Nat.zero_le _, hc, fun j u hu => by simp at hu⟩
theorem stepV {ops : Array Oper} {o : Oper} {a : Act} {Q : Exit → Act → World → Prop} {K : Act → World → Prop} {E : Prop} (w : World) {v src : Value} {us vs : List Value} {n m base : Nat} (hown : Own w base 52 1 v n us) (hsrc : Rd w 1 src m vs) (h1 : ∀ u ∈ vs, u.oneCell' = true) (hgd : o.guard = none) (s x : Operand)
    (ho : o.op = .call { callee := .builtin .append, args := #[s, x], argTypes := #[22, 22] })
    (hs : a.eval s = v) (hx : a.eval x = src) (hn : n + m ≤ 2147483648) (hbase : base ≤ w.heap.size)
    (h : ∀ v' w', Own w' base 52 1 v' (n + m) (us ++ vs) → w.grownBy w' v.ownBlock → K (a.put o.dst v') w') :
    if Region.wanted o (yielded ops a.tmps) = true then Oper.wp Try.prog o a w K Q else E := by
  have hw : Region.wanted o (yielded ops a.tmps) = true := by simp [Region.wanted, hgd]
  rw [if_pos hw]
  exact wp_app w s x 22 ho base 52 Try.underlying22 info_ints (by decide) rfl (by decide) hown hsrc h1 hs hx hn hbase fun v' w' k1 k2 _ => h v' w' k1 k2
/-- What the two appends leave: the rows in their new order. -/
theorem swap_own {w2 w5 : World} {lo hi k N base : Nat} {v5 : Value} {vs us : List Value} {cs : List (List Int)} (hin : Inner w2 lo hi 3 vs cs) (hx : Ext w2 w5) (hh : hi ≤ w5.heap.size) (hk : k ≤ cs.length) (hN : N = cs.length) (hus : us = vs.drop k ++ vs.take k) (hlo : lo ≤ base) (ho9 : Own w5 base 52 1 v5 N us) : OwnSS w5 lo w5.heap.size 52 3 v5 (cs.drop k ++ cs.take k) := by
  have hl : (vs.take k).length = (cs.take k).length := by simp [hin.1]
  have hin2 : Inner w2 lo hi 3 (vs.take k ++ vs.drop k) (cs.take k ++ cs.drop k) := by rw [List.take_append_drop, List.take_append_drop]; exact hin
  have h3 := (hin2.rot hl).ext hx
  subst hus
  subst hN
  have ho := own_rebase ho9 hlo
  refine ⟨vs.drop k ++ vs.take k, ?_, fun g hg => (own_blocks ho g hg).2, h3.1, fun i u xs a b => ⟨(h3.2.1 i u xs a b).1, fun g hg => Nat.lt_of_lt_of_le ((h3.2.1 i u xs a b).2 g hg) hh⟩, h3.2.2⟩
  rw [show (cs.drop k ++ cs.take k).length = cs.length from by simp; omega]
  exact ho
theorem own_formN {w : World} {base s n : Nat} {e : TypeId} {v : Value} {cs : List Value} (h : Own w base e s v n cs) : ∃ A c, v = .slice A n c := by
  rcases h.2 with ⟨rfl, rfl⟩ | ⟨g, cap, cur, rfl, -⟩
  · exact ⟨none, 0, rfl⟩
  · exact ⟨_, _, rfl⟩
theorem OwnSS.formN {w : World} {lo hi n : Nat} {eS eI : TypeId} {v : Value} {xss : List (List Int)} (h : OwnSS w lo hi eS eI v xss) (hn : xss.length = n) : ∃ A c, v = .slice A n c := by
  obtain ⟨A, c, hv, -⟩ := h.form
  exact ⟨A, c, by rw [hv, hn]⟩
theorem rdSS_formN {w : World} {n : Nat} {v : Value} {xss : List (List Int)} (h : RdSS w v xss) (hn : xss.length = n) : ∃ A c, v = .slice A n c ∧ True := by
  obtain ⟨A, c, hv, -⟩ := h.form
  exact ⟨A, c, by rw [hv, hn], trivial⟩
theorem cell_set2 {w : World} {b b' i : Nat} {x y v : Value} (h : w.cell? ⟨b, i, none⟩ = some v) (hne : ¬ b = b') : ((w.setCell ⟨b', 0, none⟩ x).setCell ⟨b', 1, none⟩ y).cell? ⟨b, i, none⟩ = some v := by
  have h1 : ((w.setCell ⟨b', 0, none⟩ x).setCell ⟨b', 1, none⟩ y).heap[b]? = w.heap[b]? := by
    rw [Below.heap_setCell _ ⟨b', 1, none⟩ y b (fun e => hne e), Below.heap_setCell _ ⟨b', 0, none⟩ x b (fun e => hne e)]
  unfold World.cell? at h ⊢
  rw [h1]
  exact h
def RetW (w : World) (f : Cnf) (n : Int) (q : Bool) : Ending → World → Prop := fun e w' => ∃ u, e = .returned (.tuple #[u, .int .i64 n, .bool q]) ∧ Own_Cnf w' w.heap.size w'.heap.size u f ∧ Ext w w'
theorem RetW.zero {w w' : World} {f : Cnf} {n : Int} {q : Bool} (hf : Hid (f = ⟨0, []⟩)) (hn : Hid (n = 0)) (hx : Ext w w') (hq : q = false) : RetW w f n q (.returned (.tuple #[.agg #[.int .i64 0, .slice none 0 0], .int .i64 0, .bool false])) w' := by
  rw [hf.out, hn.out, hq]
  exact ⟨_, rfl, ⟨_, rfl, [], own_nil _ _ _ _, (fun g hg => by cases hg), rfl, (fun i u xs h => by simp at h), (fun i j u u' g _ h => by simp at h)⟩, hx⟩
end Go.Proofs.Ytlegfibfjhfkhaa
