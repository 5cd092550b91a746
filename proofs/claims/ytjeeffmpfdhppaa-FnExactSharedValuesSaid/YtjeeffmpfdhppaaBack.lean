/-
  slices.Backward over the gates of a circuit: what its iterator hands over, the last gate first. Condition: a valid circuit.
-/
import Derived.RangeFuncNested
import Derived.RangeFuncBound
import Derived.RangeFuncCalls
import Derived.RangeFuncLeaves
import Derived.RangeFuncBox
import Derived.Shelf.Abstract
import Derived.Shelf.RegionOpen
import Derived.OwnWalkIn
import Derived.TacticsInMore
import Derived.LoopNIn
import Derived.LoopIn
import Derived.Test.YtjeeffmpfdhppaaNeedS
namespace Go.Proofs.Ytjeeffmpfdhppaa
open Go.RowKit Go.Shelf
attribute [local go_sem] Oper.semAt_some
/-- What a round is handed: a gate's number and the gate, a valid one. -/
abbrev BwA (n : Int) (N : Nat) := { x : Nat × Gat // x.1 < N ∧ gateB n x.1 x.2 = true }
def bw {n : Int} {gs : List Gat} (hg : circB n gs = true) (m : Nat) : BwA n gs.length := ⟨(gs.length - (m + 1), gs.getD (gs.length - (m + 1)) ⟨0, 0, 0⟩), by
  have h := circ_inv hg
  have hlt : gs.length - (m + 1) < gs.length := by omega
  refine ⟨hlt, ?_⟩
  have := h.2.2 _ hlt
  simpa [List.getD, hlt] using this⟩
def bwL {n : Int} {gs : List Gat} (hg : circB n gs = true) (k : Nat) : List (BwA n gs.length) := (List.range k).map (bw hg)
theorem bwL_succ {n : Int} {gs : List Gat} (hg : circB n gs = true) (k : Nat) : bwL hg (k + 1) = bwL hg k ++ [bw hg k] := by simp [bwL, List.range_succ]
@[simp] theorem bwL_len {n : Int} {gs : List Gat} (hg : circB n gs = true) (k : Nat) : (bwL hg k).length = k := by simp [bwL]
def gatV (g : Gat) : Value := .agg #[.int .i64 g.k, .int .i64 g.a, .int .i64 g.b]
def bwE {n : Int} {N : Nat} (x : BwA n N) : Array Value := #[.int .i64 (x.1.1 : Int), gatV x.1.2]
/-- What a round must keep: what lay ahead of the call, and the box of the slice. -/
def KpB (n₀ Bs : Nat) (W W' : World) : Prop := Below n₀ W W' ∧ W'.heap[Bs]? = W.heap[Bs]?
theorem KpB.trans' {n₀ Bs : Nat} {A B C : World} (h : KpB n₀ Bs A B) (k : KpB n₀ Bs B C) : KpB n₀ Bs A C := ⟨h.1.trans k.1, k.2.trans h.2⟩
set_option maxRecDepth 100000 in
set_option maxHeartbeats 2000000 in
theorem bw1_in (m : Nat) (hm : 1 ≤ m) (l Bs : Nat) (n : Int) (gs : List Gat) (hg : circB n gs = true) (A : Option Addr) (c : Nat) (w : World) (hR : Rd_GateS w (.slice A gs.length c) gs) (J Jx : List (BwA n gs.length) → World → Prop)
    (hY : ∀ pre x W, J pre W → pre.length < gs.length → YieldAt Fence.wide (m - 1) Try.prog l (bwE x) W fun e W' =>
      (e = .returned (.bool true) ∧ J (pre ++ [x]) W' ∧ KpB w.heap.size Bs W W') ∨ (e = .returned (.bool false) ∧ Jx (pre ++ [x]) W'))
    (W : World) (hX : Ext w W) (hB : W.heap[Bs]? = some (.cells #[.slice A gs.length c] 33 (0, 0))) (h0 : J [] W) :
    CallsIn Fence.wide m Try.prog 185 #[.func (.yield l) #[] #[], .pointer (some ⟨Bs, 0, none⟩)] W fun e W' => (∃ v, e = .returned v) ∧
      ((∃ ys, ys = bwL hg gs.length ∧ J ys W') ∨ (∃ pre, True ∧ Jx pre W')) := by
  obtain ⟨-, ⟨hl1, hl2⟩, -⟩ := circ_inv hg
  have ha := hd hR
  have hbs : W.cell? ⟨Bs, 0, none⟩ = some (.slice A gs.length c) := by simp [World.cell?, hB]
  have hfb : W.frozen? ⟨Bs, 0, none⟩ = false := by simp [World.frozen?, hB]
  have HB := hd hB
  clear hB hR
  obtain ⟨M, hM⟩ : ∃ M, gs.length = M + 1 := ⟨gs.length - 1, by omega⟩
  have hwr : IntKind.i64.wrap ((M : Int) + 1 - 1) = (M : Int) := by rw [show (M : Int) + 1 - 1 = (M : Int) from by omega]; exact IntWalk.i64_in _ (by omega)
  have HEL : Hid (∀ j, (hj : j < gs.length) → bwE (bw hg (M - j)) = #[.int .i64 (j : Int), .agg #[.int .i64 gs[j].k, .int .i64 gs[j].a, .int .i64 gs[j].b]]) := hd fun j hj => by
    have e : gs.length - (M - j + 1) = j := by omega
    unfold bwE bw gatV
    simp only [e]
    rw [show gs.getD j ⟨0, 0, 0⟩ = gs[j] by simp [List.getD, hj]]
  have HLS : Hid (∀ j, j ≤ M → bwL hg (M + 1 - j) = bwL hg (M - j) ++ [bw hg (M - j)]) := hd fun j hj => by
    rw [show M + 1 - j = M - j + 1 from by omega]; exact bwL_succ hg _
  have HLL : Hid (∀ k, (bwL hg k).length = k) := hd (bwL_len hg)
  have HFIN : Hid (bwL hg (M + 1) = bwL hg gs.length) := hd (congrArg (bwL hg) hM.symm)
  have HL0 : Hid (bwL hg 0 = []) := hd rfl
  have HY := hd hY
  rw [hM] at hbs ha HB hl2
  clear hY
  have HM := hd hM
  generalize bwL hg = bl at *
  generalize bw hg = be at *
  clear hM
  refine callsIn_of_wp Try.func185 rfl trivial ?_ rfl
  simp only [Try.ntmps185, List.size_toArray, List.length_cons, List.length_nil, Nat.reduceAdd, Nat.reduceSub, Array.replicate_succ, Array.replicate_zero, List.push_toArray, List.append_toArray, List.nil_append, List.cons_append]
  gi_wp2
  gi_loopw [3] (fun i wr => ∃ j : Nat, j ≤ M + 1 ∧ i = .int .i64 ((j : Int) - 1) ∧ J (bl (M + 1 - j)) wr ∧ KpB w.heap.size Bs W wr) (fun i _ => (intOf i + 1).toNat)
  case atStart => exact ⟨M + 1, by omega, by simp, by rw [Nat.sub_self, HL0.out]; exact h0, Below.refl _ _, rfl⟩
  case round =>
    obtain ⟨j, hj, hi, hJs, hk⟩ := hrel
    have HK := hd hk
    clear hk
    cases j with
    | zero =>
      obtain rfl : _ = Value.int .i64 (-1) := hi
      gi_wp2
      go_end0
      exact ⟨⟨_, rfl⟩, .inl ⟨_, HFIN.out, hJs⟩⟩
    | succ j =>
      rw [show ((j + 1 : Nat) : Int) - 1 = (j : Int) from by omega] at hi
      subst hi
      have hlt : j < gs.length := by rw [HM.out]; omega
      rw [show M + 1 - (j + 1) = M - j from by omega] at hJs
      obtain ⟨a, rfl, d0, d1, d2⟩ := Rd_GateS.at_ ha hlt
      have HX : Hid (Ext w wr) := hd (Below.trans hX HK.out.1)
      have c0 := HX.out.cell d0
      have c1 := HX.out.cell d1
      have c2 := HX.out.cell d2
      have cb : wr.cell? ⟨Bs, 0, none⟩ = some (.slice (some a) (M + 1) c) := by simp [World.cell?, HK.out.2, HB.out]
      obtain ⟨fn, tmps, assign, body, hy, hR⟩ := HY.out _ (be (M - j)) wr hJs (by rw [HLL.out, HM.out]; omega)
      rw [HEL.out j hlt] at hy
      have HN := hd (HLS.out j (by omega))
      clear d0 d1 d2
      generalize gs[j] = g at *
      obtain ⟨x, y, z⟩ := g
      dsimp only at c0 c1 c2 hy
      have hjb : (0 : Int) ≤ (j : Int) := by omega
      gi_wp2
      refine hR.mono ?_
      rintro e W3 (⟨rfl, hJ3, hk3⟩ | ⟨rfl, hJx3⟩)
      · have cb3 : W3.cell? ⟨Bs, 0, none⟩ = some (.slice (some a) (M + 1) c) := by simp [World.cell?, hk3.2, HK.out.2, HB.out]
        gi_wp2
        go_roundw
        case rel => exact ⟨j, by omega, by simp, by rw [HN.out]; exact hJ3, HK.out.trans' hk3⟩
        case measure => simp [intOf]
      · gi_wp2
        refine bodyPost_ret (results_none rfl _ _ _) rfl ?_
        exact ⟨⟨_, rfl⟩, .inr ⟨_, trivial, hJx3⟩⟩
end Go.Proofs.Ytjeeffmpfdhppaa
