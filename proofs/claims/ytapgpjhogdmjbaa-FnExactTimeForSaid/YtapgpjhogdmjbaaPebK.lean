/-
  Pebbling, the program's iterator over the moves. Condition: a valid graph, positions below 1024.
-/
import Derived.RangeFuncNested
import Derived.RangeFuncBound
import Derived.RangeFuncCalls
import Derived.RangeFuncLeaves
import Derived.RangeFuncBox
import Derived.Shelf.Abstract
import Derived.Shelf.RegionOpen
import Derived.OwnWalkIn
import Derived.TacticsInMore
import Derived.LoopNIn
import Derived.LoopIn
import Derived.Test.YtapgpjhogdmjbaaPebJ
namespace Go.Proofs.Ytapgpjhogdmjbaa
open Go.RowKit Go.Shelf Peb
attribute [local go_sem] Oper.semAt_some
def okA (ds : List (List Int)) (n : Nat) (rev : Bool) (s P : Nat) (m : Nat × Nat × Nat) : Bool :=
  decide (m.1 < 2) && (decide (m.2.1 < n) && (mvB ds rev P ((m.1 : Int) + 1) m.2.1 && (decide (m.2.2 = P ^^^ 2 ^ m.2.1) && decide (cnt m.2.2 ≤ s))))
abbrev MvA (ds : List (List Int)) (n : Nat) (rev : Bool) (s P : Nat) := { m : Nat × Nat × Nat // okA ds n rev s P m = true }
section
variable {ds : List (List Int)} {n : Nat} {rev : Bool} {s P : Nat}
theorem okA_iff {m : Nat × Nat × Nat} : okA ds n rev s P m = true ↔ m.1 < 2 ∧ m.2.1 < n ∧ mvB ds rev P ((m.1 : Int) + 1) m.2.1 = true ∧ m.2.2 = P ^^^ 2 ^ m.2.1 ∧ cnt m.2.2 ≤ s := by
  unfold okA
  simp only [Bool.and_eq_true, decide_eq_true_iff]
def mvE (m : MvA ds n rev s P) : Array Value := #[.agg #[.int .i64 ((m.1.1 : Int) + 1), .int .i64 (m.1.2.1 : Int)], .int .u64 (m.1.2.2 : Int)]
def mvO (ds : List (List Int)) (n : Nat) (rev : Bool) (s P : Nat) (i : Nat) : Option (MvA ds n rev s P) := if h : okA ds n rev s P (i / n, i % n, P ^^^ 2 ^ (i % n)) = true then some ⟨_, h⟩ else none
def mvU (ds : List (List Int)) (n : Nat) (rev : Bool) (s P : Nat) (k : Nat) : List (MvA ds n rev s P) := (List.range k).filterMap (mvO ds n rev s P)
theorem mvU_zero : mvU ds n rev s P 0 = [] := rfl
theorem mvU_succ (k : Nat) : mvU ds n rev s P (k + 1) = mvU ds n rev s P k ++ (mvO ds n rev s P k).toList := by
  unfold mvU
  rw [List.range_succ, List.filterMap_append]
  cases h : mvO ds n rev s P k <;> simp [h]
theorem mvU_len : ∀ k, (mvU ds n rev s P k).length ≤ k
  | 0 => Nat.le_refl _
  | k + 1 => by
    rw [mvU_succ, List.length_append]
    have := mvU_len k
    cases mvO ds n rev s P k <;> simp <;> omega
theorem mvO_div {j x : Nat} (hx : x < n) : (j * n + x) / n = j ∧ (j * n + x) % n = x := by
  have hn : 0 < n := by omega
  constructor
  · rw [Nat.mul_comm, Nat.mul_add_div hn, Nat.div_eq_of_lt hx, Nat.add_zero]
  · rw [Nat.mul_comm, Nat.mul_add_mod, Nat.mod_eq_of_lt hx]
theorem mvO_yes {j x : Nat} (hj : j < 2) (hx : x < n) (hB : mvB ds rev P ((j : Int) + 1) x = true) (hc : cnt (P ^^^ 2 ^ x) ≤ s) :
    ∃ h, mvO ds n rev s P (j * n + x) = some ⟨(j, x, P ^^^ 2 ^ x), h⟩ := by
  have hok : okA ds n rev s P (j, x, P ^^^ 2 ^ x) = true := okA_iff.2 ⟨hj, hx, hB, rfl, hc⟩
  refine ⟨hok, ?_⟩
  unfold mvO
  obtain ⟨e1, e2⟩ := mvO_div (j := j) hx
  simp only [e1, e2, hok, dif_pos]
theorem mvO_no {j x : Nat} (hx : x < n) (h : ¬ (mvB ds rev P ((j : Int) + 1) x = true ∧ cnt (P ^^^ 2 ^ x) ≤ s)) : mvO ds n rev s P (j * n + x) = none := by
  unfold mvO
  obtain ⟨e1, e2⟩ := mvO_div (j := j) hx
  simp only [e1, e2]
  exact dif_neg fun hok => h ⟨(okA_iff.1 hok).2.2.1, (okA_iff.1 hok).2.2.2.2⟩
end
theorem ext_grown {w w' : World} (h : Ext w w') (row : Option Nat) : w.grownBy w' row := ⟨h.os, h.tape, h.output, h.size, fun i hi _ => h.block i hi⟩
theorem i_moves (d : Value) (P s : Nat) (rev : Bool) (w : World) : Calls Try.prog 34 #[.agg #[d], .int .u64 (P : Int), .int .i64 (s : Int), .bool rev] w (fun e w' => e = .returned (.func (.func 46) #[] #[.pointer (some ⟨w.heap.size, 0, none⟩), .pointer (some ⟨w.heap.size + 1, 0, none⟩), .pointer (some ⟨w.heap.size + 1 + 1 + 1, 0, none⟩), .pointer (some ⟨w.heap.size + 1 + 1, 0, none⟩)]) ∧
    w' = (((w.alloc (.cells #[d] 28)).alloc (.cells #[.int .u64 (P : Int)] 55)).alloc (.cells #[.int .i64 (s : Int)] 3)).alloc (.cells #[.bool rev] 4)) := by
  go_enter Try.func34, Try.ntmps34
  go_wp2
  go_ret
  exact ⟨rfl, rfl⟩
set_option maxRecDepth 100000 in
set_option maxHeartbeats 4000000 in
theorem moves1_in (m : Nat) (hm : 1 ≤ m) (l B : Nat) (ds : List (List Int)) (s P : Nat) (rev : Bool) (hg : goodD ds = true) (hb : Bd_Dag ds) (hP : P < 2 ^ ds.length) (A : Option Addr) (c : Nat) (wm : World) (hR : Rd_Dag wm (.agg #[.slice A ds.length c]) ds)
    (hB0 : wm.heap[B]? = some (.cells #[.slice A ds.length c] 28 (0, 0))) (hB1 : wm.heap[B + 1]? = some (.cells #[.int .u64 (P : Int)] 55 (0, 0))) (hB2 : wm.heap[B + 1 + 1]? = some (.cells #[.int .i64 (s : Int)] 3 (0, 0))) (hB3 : wm.heap[B + 1 + 1 + 1]? = some (.cells #[.bool rev] 4 (0, 0)))
    (J Jx : List (MvA ds ds.length rev s P) → World → Prop) (hJ : ∀ xs W1 W2, J xs W1 → Ext W1 W2 → J xs W2)
    (hY : ∀ pre x W, J pre W → pre.length < 2 * ds.length → YieldAt Fence.wide (m - 1) Try.prog l (mvE x) W fun e W' =>
      (e = .returned (.bool true) ∧ J (pre ++ [x]) W' ∧ Below wm.heap.size W W') ∨ (e = .returned (.bool false) ∧ Jx (pre ++ [x]) W'))
    (W : World) (hX : Ext wm W) (h0 : J [] W) :
    CallsIn Fence.wide m Try.prog 46 #[.func (.yield l) #[] #[], .pointer (some ⟨B, 0, none⟩), .pointer (some ⟨B + 1, 0, none⟩), .pointer (some ⟨B + 1 + 1 + 1, 0, none⟩), .pointer (some ⟨B + 1 + 1, 0, none⟩)] W fun e W' => (∃ v, e = .returned v) ∧
      ((∃ ys, ys = mvU ds ds.length rev s P (2 * ds.length) ∧ J ys W') ∨ (∃ pre, (∃ k, k ≤ 2 * ds.length ∧ pre = mvU ds ds.length rev s P k) ∧ Jx pre W')) := by
  have HR := hd hR
  obtain ⟨hn1, hn10, hdag⟩ := goodD_dag hg
  have HBX : Hid (∀ w' : World, Ext wm w' → w'.cell? ⟨B, 0, none⟩ = some (.slice A ds.length c) ∧ w'.cell? ⟨B + 1, 0, none⟩ = some (.int .u64 (P : Int)) ∧ w'.cell? ⟨B + 1 + 1, 0, none⟩ = some (.int .i64 (s : Int)) ∧ w'.cell? ⟨B + 1 + 1 + 1, 0, none⟩ = some (.bool rev)) :=
    hd fun w' hx => ⟨cell_ofD (hx.heap hB0), cell_ofD (hx.heap hB1), cell_ofD (hx.heap hB2), cell_ofD (hx.heap hB3)⟩
  have hP10 : P < 1024 := lt_bits hn10 hP
  have HMV := hd (fun w' (hx : Ext wm w') x kd hx' hk => i_moved ds P x kd rev _ w' (HR.out.ext hx) hx' hn10 (hd fun p hp => by have := hdag x hx' p hp; omega) (by rw [List.getD_eq_getElem?_getD, List.getElem?_eq_getElem hx']; exact hb.2.1 _ (List.getElem_mem hx')) hP10 hk)
  have HFL : Hid (∀ x, x < ds.length → P ^^^ 2 ^ x < 1024) := hd fun x hx => lt_bits hn10 (flip_lt hP hx)
  have HJ := hd hJ
  have HY := hd hY
  have HX0 := hd hX
  have HUS := hd (fun k => mvU_succ (ds := ds) (n := ds.length) (rev := rev) (s := s) (P := P) k)
  have HUL := hd (fun k => mvU_len (ds := ds) (n := ds.length) (rev := rev) (s := s) (P := P) k)
  have HUY := hd (fun j x hj hx hB hc => mvO_yes (ds := ds) (n := ds.length) (rev := rev) (s := s) (P := P) (j := j) (x := x) hj hx hB hc)
  have HUN := hd (fun j x hx h => mvO_no (ds := ds) (n := ds.length) (rev := rev) (s := s) (P := P) (j := j) (x := x) hx h)
  clear hJ hY hdag hb hg hR hX
  refine callsIn_of_wp Try.func46 rfl trivial ?_ rfl
  simp only [Try.ntmps46, List.size_toArray, List.length_cons, List.length_nil, Nat.reduceAdd, Nat.reduceSub, Array.replicate_succ, Array.replicate_zero, List.push_toArray, List.append_toArray, List.nil_append, List.cons_append]
  gi_wp2
  gi_loopw [6] (fun kv wr => ∃ j : Nat, j ≤ 2 ∧ kv = .int .i64 ((j : Int) + 1) ∧ J (mvU ds ds.length rev s P (j * ds.length)) wr ∧ Ext wm wr) (fun kv _ => 4 - (intOf kv).toNat)
  case atStart => exact ⟨0, by omega, by simp, by rw [Nat.zero_mul]; exact h0, HX0.out⟩
  case round =>
    obtain ⟨j, hj, rfl, hJs, hx⟩ := hrel
    have HX1 := hd hx
    have HJ1 := hd hJs
    obtain ⟨c0, c1, c2, c3⟩ := HBX.out _ hx
    clear hx hJs
    by_cases hlt : j < 2
    · have hj2 : (j : Int) + 1 ≤ 2 := by omega
      gi_wp2
      gi_loopw [18] (fun xv wr => ∃ x : Nat, x ≤ ds.length ∧ xv = .int .i64 (x : Int) ∧ J (mvU ds ds.length rev s P (j * ds.length + x)) wr ∧ Ext wm wr) (fun xv _ => ds.length - (intOf xv).toNat)
      case atStart => exact ⟨0, by omega, by simp, HJ1.out, HX1.out⟩
      case round =>
        clear c0 c1 c2 c3 HX1 HJ1
        obtain ⟨x, hxl, rfl, hJs, hx⟩ := hrel
        have HX1 := hd hx
        have HJ1 := hd hJs
        obtain ⟨c0, c1, c2, c3⟩ := HBX.out _ hx
        clear hx hJs
        by_cases hltx : x < ds.length
        · have hx0 : (0 : Int) ≤ (x : Int) := by omega
          have HM := HMV.out (wr.alloc (.cells #[.int .i64 ((j : Int) + 1), .int .i64 (x : Int)] 52)) (HX1.out.alloc _) x ((j : Int) + 1) hltx (by omega)
          have cm0 : (wr.alloc (.cells #[.int .i64 ((j : Int) + 1), .int .i64 (x : Int)] 52)).cell? ⟨wr.heap.size, 0, none⟩ = some (.int .i64 ((j : Int) + 1)) := by unfold World.cell?; rw [heap_n1]; rfl
          have cm1 : (wr.alloc (.cells #[.int .i64 ((j : Int) + 1), .int .i64 (x : Int)] 52)).cell? ⟨wr.heap.size, 1, none⟩ = some (.int .i64 (x : Int)) := by unfold World.cell?; rw [heap_n1]; rfl
          obtain ⟨d0, d1, d2, d3⟩ := HBX.out _ (HX1.out.alloc (.cells #[.int .i64 ((j : Int) + 1), .int .i64 (x : Int)] 52))
          gi_wp2
          refine ⟨trivial, ?_⟩
          refine (callsIn_wide.2 HM).mono ?_
          rintro e w5 ⟨rfl, hx5⟩
          have HX5 := hd hx5
          have X15 := hd ((HX1.out.alloc (.cells #[.int .i64 ((j : Int) + 1), .int .i64 (x : Int)] 52)).trans hx5)
          have m0 := HX5.out.cell cm0
          have m1 := HX5.out.cell cm1
          obtain ⟨b0, b1, b2, b3⟩ := HBX.out _ X15.out
          clear c0 c1 c2 c3 d0 d1 d2 d3 cm0 cm1 HM hx5
          have hQ := HFL.out x hltx
          by_cases hok : mvB ds rev P ((j : Int) + 1) x = true
          · rw [hok]
            have HSZ := hd (fun w' => i_size (P ^^^ 2 ^ x) w' hQ)
            have HKL : Hid (j * ds.length + (x + 1) ≤ 2 * ds.length) := hd (by have := Nat.mul_le_mul_right ds.length (show j ≤ 1 by omega); omega)
            by_cases hcs : cnt (P ^^^ 2 ^ x) ≤ s
            · obtain ⟨hA, hO⟩ := HUY.out j x hlt hltx hok hcs
              have HN : Hid (mvU ds ds.length rev s P (j * ds.length + (x + 1)) = mvU ds ds.length rev s P (j * ds.length + x) ++ [⟨(j, x, P ^^^ 2 ^ x), hA⟩]) := hd (by rw [← Nat.add_assoc, HUS.out, hO]; rfl)
              obtain ⟨fn, tmps, assign, body, hy, hR⟩ := HY.out (mvU ds ds.length rev s P (j * ds.length + x)) ⟨(j, x, P ^^^ 2 ^ x), hA⟩ w5.drew (HJ.out _ _ _ HJ1.out (((Ext.new wr _).trans HX5.out).drew)) (by have := HUL.out (j * ds.length + x); have := HKL.out; omega)
              dsimp only [mvE] at hy
              have HRR := hd hR
              have hcI : decide (cnt (P ^^^ 2 ^ x) ≤ s) = true := decide_eq_true hcs
              clear hO hok hR
              rw [cond_true]
              generalize cnt (P ^^^ 2 ^ x) = cq at *
              gi_wp2
              refine wpIn_region_any (by kernel_rfl) ?_
              change wpAnyIn _ _ _ _ _ _ _ _ _ (World.drew _)
              refine wpAnyIn_take (i := 0) (v := ?_) rfl rfl (by kernel_rfl) (by kernel_rfl) (by kernel_rfl) (fun _ _ _ h => h) ⟨Or.inl ⟨by rfl, ?_⟩, fun _ => rfl⟩ ?_
              rotate_left
              · (intro w; go_simp; (try with_reducible rfl))
              (try simp only [Act.put])
              (try simp only [List.setIfInBounds_toArray, List.set_cons_zero, List.set_cons_succ])
              refine wpAnyIn_take (i := 1) (v := ?_) rfl rfl (by kernel_rfl) (by kernel_rfl) (by kernel_rfl) (fun _ _ _ h => h) ⟨Or.inl ⟨by rfl, ?_⟩, fun _ => rfl⟩ ?_
              rotate_left
              · (intro w; go_simp; (try with_reducible rfl))
              (try simp only [Act.put])
              (try simp only [List.setIfInBounds_toArray, List.set_cons_zero, List.set_cons_succ])
              refine wpAnyIn_take (i := 2) (v := ?_) rfl rfl (by kernel_rfl) (by kernel_rfl) (by kernel_rfl) (fun _ _ _ h => h) ⟨Or.inl ⟨by rfl, ?_⟩, fun _ => rfl⟩ ?_
              rotate_left
              · (intro w; go_simp; (try with_reducible rfl))
              (try simp only [Act.put])
              (try simp only [List.setIfInBounds_toArray, List.set_cons_zero, List.set_cons_succ])
              refine wpAnyIn_ready (rs := [3, 4]) (by kernel_rfl) (by simp) (AllReadyIn.cons rfl (fun K hK => ?_) (AllReadyIn.cons rfl (fun K hK => ?_) AllReadyIn.nil))
              · go_simp
                refine ⟨trivial, ?_⟩
                refine (callsIn_wide.2 (HSZ.out _)).mono ?_
                rintro e w6 ⟨rfl, rfl⟩
                go_simp
                refine hK _ _ ?_
                clear hK K
                (try simp only [Act.put])
                (try simp only [List.setIfInBounds_toArray, List.set_cons_zero, List.set_cons_succ])
                refine wpAnyIn_ready (rs := [4]) (by kernel_rfl) (by simp) (AllReadyIn.cons rfl (fun K hK => ?_) AllReadyIn.nil)
                go_simp
                refine hK _ _ ?_
                clear hK K
                (try simp only [Act.put])
                (try simp only [List.setIfInBounds_toArray, List.set_cons_zero, List.set_cons_succ])
                refine wpAnyIn_take (i := 5) (v := ?_) rfl rfl (by kernel_rfl) (by kernel_rfl) (by kernel_rfl) (fun _ _ _ h => h) ⟨Or.inl ⟨by rfl, ?_⟩, fun _ => rfl⟩ ?_
                rotate_left
                · (intro w; go_simp; (try with_reducible rfl))
                (try simp only [Act.put])
                (try simp only [List.setIfInBounds_toArray, List.set_cons_zero, List.set_cons_succ])
                refine wpAnyIn_take (i := 6) (v := ?_) rfl rfl (by kernel_rfl) (by kernel_rfl) (by kernel_rfl) (fun _ _ _ h => h) ⟨Or.inl ⟨by rfl, ?_⟩, fun _ => rfl⟩ ?_
                rotate_left
                · (intro w; go_simp; (try with_reducible rfl))
                (try simp only [Act.put])
                (try simp only [List.setIfInBounds_toArray, List.set_cons_zero, List.set_cons_succ])
                refine wpAnyIn_take (i := 7) (v := ?_) rfl rfl (by kernel_rfl) (by kernel_rfl) (by kernel_rfl) (fun _ _ _ h => h) ⟨Or.inl ⟨by rfl, ?_⟩, fun _ => rfl⟩ ?_
                rotate_left
                · (intro w; go_simp; (try with_reducible rfl))
                (try simp only [Act.put])
                (try simp only [List.setIfInBounds_toArray, List.set_cons_zero, List.set_cons_succ])
                refine wpAnyIn_take (i := 8) (v := ?_) rfl rfl (by kernel_rfl) (by kernel_rfl) (by kernel_rfl) (fun _ _ _ h => h) ⟨Or.inl ⟨by rfl, ?_⟩, fun _ => rfl⟩ ?_
                rotate_left
                · (intro w; go_simp; (try with_reducible rfl))
                (try simp only [Act.put])
                (try simp only [List.setIfInBounds_toArray, List.set_cons_zero, List.set_cons_succ])
                refine wpAnyIn_take (i := 10) (v := ?_) rfl rfl (by kernel_rfl) (by kernel_rfl) (by kernel_rfl) (fun _ _ _ h => h) ⟨Or.inl ⟨by rfl, ?_⟩, fun _ => rfl⟩ ?_
                rotate_left
                · (intro w; go_simp; (try with_reducible rfl))
                (try simp only [Act.put])
                (try simp only [List.setIfInBounds_toArray, List.set_cons_zero, List.set_cons_succ])
                refine wpAnyIn_ready (rs := [9]) (by kernel_rfl) (by simp) (AllReadyIn.cons rfl (fun K hK => ?_) AllReadyIn.nil)
                go_simp
                refine hK _ _ ?_
                clear hK K
                (try simp only [Act.put])
                (try simp only [List.setIfInBounds_toArray, List.set_cons_zero, List.set_cons_succ])
                refine wpAnyIn_ready (rs := [11]) (by kernel_rfl) (by simp) (AllReadyIn.cons rfl (fun K hK => ?_) AllReadyIn.nil)
                go_simp
                (try refine ⟨trivial, ?_⟩)
                refine (RoundIn.mono HRR.out ?_).2
                rintro e W3 (⟨rfl, hJ3, hk3⟩ | ⟨rfl, hJx3⟩)
                · go_simp
                  refine hK _ _ ?_
                  clear hK K
                  (try simp only [Act.put])
                  (try simp only [List.setIfInBounds_toArray, List.set_cons_zero, List.set_cons_succ])
                  refine wpAnyIn_take (i := 12) (v := ?_) rfl rfl (by kernel_rfl) (by kernel_rfl) (by kernel_rfl) (fun _ _ _ h => h) ⟨Or.inl ⟨by rfl, ?_⟩, fun _ => rfl⟩ ?_
                  rotate_left
                  · (intro w; go_simp; (try with_reducible rfl))
                  (try simp only [Act.put])
                  (try simp only [List.setIfInBounds_toArray, List.set_cons_zero, List.set_cons_succ])
                  refine wpAnyIn_take (i := 13) (v := ?_) rfl rfl (by kernel_rfl) (by kernel_rfl) (by kernel_rfl) (fun _ _ _ h => h) ⟨Or.inl ⟨by rfl, ?_⟩, fun _ => rfl⟩ ?_
                  rotate_left
                  · (intro w; go_simp; (try with_reducible rfl))
                  (try simp only [Act.put])
                  (try simp only [List.setIfInBounds_toArray, List.set_cons_zero, List.set_cons_succ])
                  refine wpAnyIn_done (by kernel_rfl) ?_ _
                  gi_wp2
                  go_roundw
                  case rel => exact ⟨x + 1, by omega, by go_num, by rw [HN.out]; exact hJ3, Below.trans X15.out.drew hk3⟩
                  case measure => simp [intOf]; omega
                · go_simp
                  refine hK _ _ ?_
                  clear hK K
                  (try simp only [Act.put])
                  (try simp only [List.setIfInBounds_toArray, List.set_cons_zero, List.set_cons_succ])
                  refine wpAnyIn_take (i := 12) (v := ?_) rfl rfl (by kernel_rfl) (by kernel_rfl) (by kernel_rfl) (fun _ _ _ h => h) ⟨Or.inl ⟨by rfl, ?_⟩, fun _ => rfl⟩ ?_
                  rotate_left
                  · (intro w; go_simp; (try with_reducible rfl))
                  (try simp only [Act.put])
                  (try simp only [List.setIfInBounds_toArray, List.set_cons_zero, List.set_cons_succ])
                  refine wpAnyIn_take (i := 13) (v := ?_) rfl rfl (by kernel_rfl) (by kernel_rfl) (by kernel_rfl) (fun _ _ _ h => h) ⟨Or.inl ⟨by rfl, ?_⟩, fun _ => rfl⟩ ?_
                  rotate_left
                  · (intro w; go_simp; (try with_reducible rfl))
                  (try simp only [Act.put])
                  (try simp only [List.setIfInBounds_toArray, List.set_cons_zero, List.set_cons_succ])
                  refine wpAnyIn_done (by kernel_rfl) ?_ _
                  gi_wp2
                  refine bodyPost_ret (results_none rfl _ _ _) rfl ?_
                  exact ⟨⟨_, rfl⟩, .inr ⟨_, ⟨j * ds.length + (x + 1), HKL.out, HN.out.symm⟩, hJx3⟩⟩
              · go_simp
                refine hK _ _ ?_
                clear hK K
                (try simp only [Act.put])
                (try simp only [List.setIfInBounds_toArray, List.set_cons_zero, List.set_cons_succ])
                refine wpAnyIn_ready (rs := [3]) (by kernel_rfl) (by simp) (AllReadyIn.cons rfl (fun K hK => ?_) AllReadyIn.nil)
                go_simp
                refine ⟨trivial, ?_⟩
                refine (callsIn_wide.2 (HSZ.out _)).mono ?_
                rintro e w6 ⟨rfl, rfl⟩
                go_simp
                refine hK _ _ ?_
                clear hK K
                (try simp only [Act.put])
                (try simp only [List.setIfInBounds_toArray, List.set_cons_zero, List.set_cons_succ])
                refine wpAnyIn_take (i := 5) (v := ?_) rfl rfl (by kernel_rfl) (by kernel_rfl) (by kernel_rfl) (fun _ _ _ h => h) ⟨Or.inl ⟨by rfl, ?_⟩, fun _ => rfl⟩ ?_
                rotate_left
                · (intro w; go_simp; (try with_reducible rfl))
                (try simp only [Act.put])
                (try simp only [List.setIfInBounds_toArray, List.set_cons_zero, List.set_cons_succ])
                refine wpAnyIn_take (i := 6) (v := ?_) rfl rfl (by kernel_rfl) (by kernel_rfl) (by kernel_rfl) (fun _ _ _ h => h) ⟨Or.inl ⟨by rfl, ?_⟩, fun _ => rfl⟩ ?_
                rotate_left
                · (intro w; go_simp; (try with_reducible rfl))
                (try simp only [Act.put])
                (try simp only [List.setIfInBounds_toArray, List.set_cons_zero, List.set_cons_succ])
                refine wpAnyIn_take (i := 7) (v := ?_) rfl rfl (by kernel_rfl) (by kernel_rfl) (by kernel_rfl) (fun _ _ _ h => h) ⟨Or.inl ⟨by rfl, ?_⟩, fun _ => rfl⟩ ?_
                rotate_left
                · (intro w; go_simp; (try with_reducible rfl))
                (try simp only [Act.put])
                (try simp only [List.setIfInBounds_toArray, List.set_cons_zero, List.set_cons_succ])
                refine wpAnyIn_take (i := 8) (v := ?_) rfl rfl (by kernel_rfl) (by kernel_rfl) (by kernel_rfl) (fun _ _ _ h => h) ⟨Or.inl ⟨by rfl, ?_⟩, fun _ => rfl⟩ ?_
                rotate_left
                · (intro w; go_simp; (try with_reducible rfl))
                (try simp only [Act.put])
                (try simp only [List.setIfInBounds_toArray, List.set_cons_zero, List.set_cons_succ])
                refine wpAnyIn_take (i := 10) (v := ?_) rfl rfl (by kernel_rfl) (by kernel_rfl) (by kernel_rfl) (fun _ _ _ h => h) ⟨Or.inl ⟨by rfl, ?_⟩, fun _ => rfl⟩ ?_
                rotate_left
                · (intro w; go_simp; (try with_reducible rfl))
                (try simp only [Act.put])
                (try simp only [List.setIfInBounds_toArray, List.set_cons_zero, List.set_cons_succ])
                refine wpAnyIn_ready (rs := [9]) (by kernel_rfl) (by simp) (AllReadyIn.cons rfl (fun K hK => ?_) AllReadyIn.nil)
                go_simp
                refine hK _ _ ?_
                clear hK K
                (try simp only [Act.put])
                (try simp only [List.setIfInBounds_toArray, List.set_cons_zero, List.set_cons_succ])
                refine wpAnyIn_ready (rs := [11]) (by kernel_rfl) (by simp) (AllReadyIn.cons rfl (fun K hK => ?_) AllReadyIn.nil)
                go_simp
                (try refine ⟨trivial, ?_⟩)
                refine (RoundIn.mono HRR.out ?_).2
                rintro e W3 (⟨rfl, hJ3, hk3⟩ | ⟨rfl, hJx3⟩)
                · go_simp
                  refine hK _ _ ?_
                  clear hK K
                  (try simp only [Act.put])
                  (try simp only [List.setIfInBounds_toArray, List.set_cons_zero, List.set_cons_succ])
                  refine wpAnyIn_take (i := 12) (v := ?_) rfl rfl (by kernel_rfl) (by kernel_rfl) (by kernel_rfl) (fun _ _ _ h => h) ⟨Or.inl ⟨by rfl, ?_⟩, fun _ => rfl⟩ ?_
                  rotate_left
                  · (intro w; go_simp; (try with_reducible rfl))
                  (try simp only [Act.put])
                  (try simp only [List.setIfInBounds_toArray, List.set_cons_zero, List.set_cons_succ])
                  refine wpAnyIn_take (i := 13) (v := ?_) rfl rfl (by kernel_rfl) (by kernel_rfl) (by kernel_rfl) (fun _ _ _ h => h) ⟨Or.inl ⟨by rfl, ?_⟩, fun _ => rfl⟩ ?_
                  rotate_left
                  · (intro w; go_simp; (try with_reducible rfl))
                  (try simp only [Act.put])
                  (try simp only [List.setIfInBounds_toArray, List.set_cons_zero, List.set_cons_succ])
                  refine wpAnyIn_done (by kernel_rfl) ?_ _
                  gi_wp2
                  go_roundw
                  case rel => exact ⟨x + 1, by omega, by go_num, by rw [HN.out]; exact hJ3, Below.trans X15.out.drew hk3⟩
                  case measure => simp [intOf]; omega
                · go_simp
                  refine hK _ _ ?_
                  clear hK K
                  (try simp only [Act.put])
                  (try simp only [List.setIfInBounds_toArray, List.set_cons_zero, List.set_cons_succ])
                  refine wpAnyIn_take (i := 12) (v := ?_) rfl rfl (by kernel_rfl) (by kernel_rfl) (by kernel_rfl) (fun _ _ _ h => h) ⟨Or.inl ⟨by rfl, ?_⟩, fun _ => rfl⟩ ?_
                  rotate_left
                  · (intro w; go_simp; (try with_reducible rfl))
                  (try simp only [Act.put])
                  (try simp only [List.setIfInBounds_toArray, List.set_cons_zero, List.set_cons_succ])
                  refine wpAnyIn_take (i := 13) (v := ?_) rfl rfl (by kernel_rfl) (by kernel_rfl) (by kernel_rfl) (fun _ _ _ h => h) ⟨Or.inl ⟨by rfl, ?_⟩, fun _ => rfl⟩ ?_
                  rotate_left
                  · (intro w; go_simp; (try with_reducible rfl))
                  (try simp only [Act.put])
                  (try simp only [List.setIfInBounds_toArray, List.set_cons_zero, List.set_cons_succ])
                  refine wpAnyIn_done (by kernel_rfl) ?_ _
                  gi_wp2
                  refine bodyPost_ret (results_none rfl _ _ _) rfl ?_
                  exact ⟨⟨_, rfl⟩, .inr ⟨_, ⟨j * ds.length + (x + 1), HKL.out, HN.out.symm⟩, hJx3⟩⟩
            · have HN : Hid (mvU ds ds.length rev s P (j * ds.length + (x + 1)) = mvU ds ds.length rev s P (j * ds.length + x)) := hd (by rw [← Nat.add_assoc, HUS.out, HUN.out j x hltx (fun h => hcs h.2)]; simp)
              have hcI : decide (cnt (P ^^^ 2 ^ x) ≤ s) = false := decide_eq_false hcs
              clear hok
              rw [cond_true]
              generalize cnt (P ^^^ 2 ^ x) = cq at *
              gi_wp2
              refine wpIn_region_any (by kernel_rfl) ?_
              change wpAnyIn _ _ _ _ _ _ _ _ _ (World.drew _)
              refine wpAnyIn_take (i := 0) (v := ?_) rfl rfl (by kernel_rfl) (by kernel_rfl) (by kernel_rfl) (fun _ _ _ h => h) ⟨Or.inl ⟨by rfl, ?_⟩, fun _ => rfl⟩ ?_
              rotate_left
              · (intro w; go_simp; (try with_reducible rfl))
              (try simp only [Act.put])
              (try simp only [List.setIfInBounds_toArray, List.set_cons_zero, List.set_cons_succ])
              refine wpAnyIn_take (i := 1) (v := ?_) rfl rfl (by kernel_rfl) (by kernel_rfl) (by kernel_rfl) (fun _ _ _ h => h) ⟨Or.inl ⟨by rfl, ?_⟩, fun _ => rfl⟩ ?_
              rotate_left
              · (intro w; go_simp; (try with_reducible rfl))
              (try simp only [Act.put])
              (try simp only [List.setIfInBounds_toArray, List.set_cons_zero, List.set_cons_succ])
              refine wpAnyIn_take (i := 2) (v := ?_) rfl rfl (by kernel_rfl) (by kernel_rfl) (by kernel_rfl) (fun _ _ _ h => h) ⟨Or.inl ⟨by rfl, ?_⟩, fun _ => rfl⟩ ?_
              rotate_left
              · (intro w; go_simp; (try with_reducible rfl))
              (try simp only [Act.put])
              (try simp only [List.setIfInBounds_toArray, List.set_cons_zero, List.set_cons_succ])
              refine wpAnyIn_ready (rs := [3, 4]) (by kernel_rfl) (by simp) (AllReadyIn.cons rfl (fun K hK => ?_) (AllReadyIn.cons rfl (fun K hK => ?_) AllReadyIn.nil))
              · go_simp
                refine ⟨trivial, ?_⟩
                refine (callsIn_wide.2 (HSZ.out _)).mono ?_
                rintro e w6 ⟨rfl, rfl⟩
                go_simp
                refine hK _ _ ?_
                clear hK K
                (try simp only [Act.put])
                (try simp only [List.setIfInBounds_toArray, List.set_cons_zero, List.set_cons_succ])
                refine wpAnyIn_ready (rs := [4]) (by kernel_rfl) (by simp) (AllReadyIn.cons rfl (fun K hK => ?_) AllReadyIn.nil)
                go_simp
                refine hK _ _ ?_
                clear hK K
                (try simp only [Act.put])
                (try simp only [List.setIfInBounds_toArray, List.set_cons_zero, List.set_cons_succ])
                refine wpAnyIn_take (i := 5) (v := ?_) rfl rfl (by kernel_rfl) (by kernel_rfl) (by kernel_rfl) (fun _ _ _ h => h) ⟨Or.inl ⟨by rfl, ?_⟩, fun _ => rfl⟩ ?_
                rotate_left
                · (intro w; go_simp; (try with_reducible rfl))
                (try simp only [Act.put])
                (try simp only [List.setIfInBounds_toArray, List.set_cons_zero, List.set_cons_succ])
                refine wpAnyIn_take (i := 6) (v := ?_) rfl rfl (by kernel_rfl) (by kernel_rfl) (by kernel_rfl) (fun _ _ _ h => h) ⟨Or.inl ⟨by rfl, ?_⟩, fun _ => rfl⟩ ?_
                rotate_left
                · (intro w; go_simp; (try with_reducible rfl))
                (try simp only [Act.put])
                (try simp only [List.setIfInBounds_toArray, List.set_cons_zero, List.set_cons_succ])
                refine wpAnyIn_take (i := 7) (v := ?_) rfl rfl (by kernel_rfl) (by kernel_rfl) (by kernel_rfl) (fun _ _ _ h => h) ⟨Or.inl ⟨by rfl, ?_⟩, fun _ => rfl⟩ ?_
                rotate_left
                · (intro w; go_simp; (try with_reducible rfl))
                (try simp only [Act.put])
                (try simp only [List.setIfInBounds_toArray, List.set_cons_zero, List.set_cons_succ])
                refine wpAnyIn_take (i := 8) (v := undef) rfl rfl (by kernel_rfl) (by kernel_rfl) (by kernel_rfl) (fun _ _ _ h => h) ⟨Or.inr ⟨by rfl, rfl⟩, fun _ => rfl⟩ ?_
                (try simp only [Act.put])
                (try simp only [List.setIfInBounds_toArray, List.set_cons_zero, List.set_cons_succ])
                refine wpAnyIn_take (i := 9) (v := undef) rfl rfl (by kernel_rfl) (by kernel_rfl) (by kernel_rfl) (fun _ _ _ h => h) ⟨Or.inr ⟨by rfl, rfl⟩, fun _ => rfl⟩ ?_
                (try simp only [Act.put])
                (try simp only [List.setIfInBounds_toArray, List.set_cons_zero, List.set_cons_succ])
                refine wpAnyIn_take (i := 10) (v := undef) rfl rfl (by kernel_rfl) (by kernel_rfl) (by kernel_rfl) (fun _ _ _ h => h) ⟨Or.inr ⟨by rfl, rfl⟩, fun _ => rfl⟩ ?_
                (try simp only [Act.put])
                (try simp only [List.setIfInBounds_toArray, List.set_cons_zero, List.set_cons_succ])
                refine wpAnyIn_ready (rs := [11]) (by kernel_rfl) (by simp) (AllReadyIn.cons rfl (fun K hK => ?_) AllReadyIn.nil)
                go_simp
                (first | refine ⟨trivial, ?_⟩ | refine ⟨fun _ _ => trivial, ?_⟩)
                refine hK _ _ ?_
                clear hK K
                (try simp only [Act.put])
                (try simp only [List.setIfInBounds_toArray, List.set_cons_zero, List.set_cons_succ])
                refine wpAnyIn_take (i := 12) (v := undef) rfl rfl (by kernel_rfl) (by kernel_rfl) (by kernel_rfl) (fun _ _ _ h => h) ⟨Or.inr ⟨by rfl, rfl⟩, fun _ => rfl⟩ ?_
                (try simp only [Act.put])
                (try simp only [List.setIfInBounds_toArray, List.set_cons_zero, List.set_cons_succ])
                refine wpAnyIn_take (i := 13) (v := ?_) rfl rfl (by kernel_rfl) (by kernel_rfl) (by kernel_rfl) (fun _ _ _ h => h) ⟨Or.inl ⟨by rfl, ?_⟩, fun _ => rfl⟩ ?_
                rotate_left
                · (intro w; go_simp; (try with_reducible rfl))
                (try simp only [Act.put])
                (try simp only [List.setIfInBounds_toArray, List.set_cons_zero, List.set_cons_succ])
                refine wpAnyIn_done (by kernel_rfl) ?_ _
                gi_wp2
                go_roundw
                case rel => exact ⟨x + 1, by omega, by go_num, by rw [HN.out]; exact HJ.out _ _ _ HJ1.out (((Ext.new wr _).trans HX5.out).drew), X15.out.drew⟩
                case measure => simp [intOf]; omega
              · go_simp
                refine hK _ _ ?_
                clear hK K
                (try simp only [Act.put])
                (try simp only [List.setIfInBounds_toArray, List.set_cons_zero, List.set_cons_succ])
                refine wpAnyIn_ready (rs := [3]) (by kernel_rfl) (by simp) (AllReadyIn.cons rfl (fun K hK => ?_) AllReadyIn.nil)
                go_simp
                refine ⟨trivial, ?_⟩
                refine (callsIn_wide.2 (HSZ.out _)).mono ?_
                rintro e w6 ⟨rfl, rfl⟩
                go_simp
                refine hK _ _ ?_
                clear hK K
                (try simp only [Act.put])
                (try simp only [List.setIfInBounds_toArray, List.set_cons_zero, List.set_cons_succ])
                refine wpAnyIn_take (i := 5) (v := ?_) rfl rfl (by kernel_rfl) (by kernel_rfl) (by kernel_rfl) (fun _ _ _ h => h) ⟨Or.inl ⟨by rfl, ?_⟩, fun _ => rfl⟩ ?_
                rotate_left
                · (intro w; go_simp; (try with_reducible rfl))
                (try simp only [Act.put])
                (try simp only [List.setIfInBounds_toArray, List.set_cons_zero, List.set_cons_succ])
                refine wpAnyIn_take (i := 6) (v := ?_) rfl rfl (by kernel_rfl) (by kernel_rfl) (by kernel_rfl) (fun _ _ _ h => h) ⟨Or.inl ⟨by rfl, ?_⟩, fun _ => rfl⟩ ?_
                rotate_left
                · (intro w; go_simp; (try with_reducible rfl))
                (try simp only [Act.put])
                (try simp only [List.setIfInBounds_toArray, List.set_cons_zero, List.set_cons_succ])
                refine wpAnyIn_take (i := 7) (v := ?_) rfl rfl (by kernel_rfl) (by kernel_rfl) (by kernel_rfl) (fun _ _ _ h => h) ⟨Or.inl ⟨by rfl, ?_⟩, fun _ => rfl⟩ ?_
                rotate_left
                · (intro w; go_simp; (try with_reducible rfl))
                (try simp only [Act.put])
                (try simp only [List.setIfInBounds_toArray, List.set_cons_zero, List.set_cons_succ])
                refine wpAnyIn_take (i := 8) (v := undef) rfl rfl (by kernel_rfl) (by kernel_rfl) (by kernel_rfl) (fun _ _ _ h => h) ⟨Or.inr ⟨by rfl, rfl⟩, fun _ => rfl⟩ ?_
                (try simp only [Act.put])
                (try simp only [List.setIfInBounds_toArray, List.set_cons_zero, List.set_cons_succ])
                refine wpAnyIn_take (i := 9) (v := undef) rfl rfl (by kernel_rfl) (by kernel_rfl) (by kernel_rfl) (fun _ _ _ h => h) ⟨Or.inr ⟨by rfl, rfl⟩, fun _ => rfl⟩ ?_
                (try simp only [Act.put])
                (try simp only [List.setIfInBounds_toArray, List.set_cons_zero, List.set_cons_succ])
                refine wpAnyIn_take (i := 10) (v := undef) rfl rfl (by kernel_rfl) (by kernel_rfl) (by kernel_rfl) (fun _ _ _ h => h) ⟨Or.inr ⟨by rfl, rfl⟩, fun _ => rfl⟩ ?_
                (try simp only [Act.put])
                (try simp only [List.setIfInBounds_toArray, List.set_cons_zero, List.set_cons_succ])
                refine wpAnyIn_ready (rs := [11]) (by kernel_rfl) (by simp) (AllReadyIn.cons rfl (fun K hK => ?_) AllReadyIn.nil)
                go_simp
                (first | refine ⟨trivial, ?_⟩ | refine ⟨fun _ _ => trivial, ?_⟩)
                refine hK _ _ ?_
                clear hK K
                (try simp only [Act.put])
                (try simp only [List.setIfInBounds_toArray, List.set_cons_zero, List.set_cons_succ])
                refine wpAnyIn_take (i := 12) (v := undef) rfl rfl (by kernel_rfl) (by kernel_rfl) (by kernel_rfl) (fun _ _ _ h => h) ⟨Or.inr ⟨by rfl, rfl⟩, fun _ => rfl⟩ ?_
                (try simp only [Act.put])
                (try simp only [List.setIfInBounds_toArray, List.set_cons_zero, List.set_cons_succ])
                refine wpAnyIn_take (i := 13) (v := ?_) rfl rfl (by kernel_rfl) (by kernel_rfl) (by kernel_rfl) (fun _ _ _ h => h) ⟨Or.inl ⟨by rfl, ?_⟩, fun _ => rfl⟩ ?_
                rotate_left
                · (intro w; go_simp; (try with_reducible rfl))
                (try simp only [Act.put])
                (try simp only [List.setIfInBounds_toArray, List.set_cons_zero, List.set_cons_succ])
                refine wpAnyIn_done (by kernel_rfl) ?_ _
                gi_wp2
                go_roundw
                case rel => exact ⟨x + 1, by omega, by go_num, by rw [HN.out]; exact HJ.out _ _ _ HJ1.out (((Ext.new wr _).trans HX5.out).drew), X15.out.drew⟩
                case measure => simp [intOf]; omega
          · have hok' : mvB ds rev P ((j : Int) + 1) x = false := by simpa using hok
            have HN : Hid (mvU ds ds.length rev s P (j * ds.length + (x + 1)) = mvU ds ds.length rev s P (j * ds.length + x)) := hd (by rw [← Nat.add_assoc, HUS.out, HUN.out j x hltx (fun h => hok h.1)]; simp)
            obtain ⟨u5, hu5⟩ : ∃ u, (bif mvB ds rev P ((j : Int) + 1) x then P ^^^ 2 ^ x else P : Nat) = u := ⟨_, rfl⟩
            rw [hu5, hok']
            clear hu5 hok hok'
            gi_wp2
            refine wpIn_region_any (by kernel_rfl) ?_
            change wpAnyIn _ _ _ _ _ _ _ _ _ (World.drew _)
            refine wpAnyIn_take (i := 0) (v := ?_) rfl rfl (by kernel_rfl) (by kernel_rfl) (by kernel_rfl) (fun _ _ _ h => h) ⟨Or.inl ⟨by rfl, ?_⟩, fun _ => rfl⟩ ?_
            rotate_left
            · (intro w; go_simp; (try with_reducible rfl))
            (try simp only [Act.put])
            (try simp only [List.setIfInBounds_toArray, List.set_cons_zero, List.set_cons_succ])
            refine wpAnyIn_take (i := 1) (v := ?_) rfl rfl (by kernel_rfl) (by kernel_rfl) (by kernel_rfl) (fun _ _ _ h => h) ⟨Or.inl ⟨by rfl, ?_⟩, fun _ => rfl⟩ ?_
            rotate_left
            · (intro w; go_simp; (try with_reducible rfl))
            (try simp only [Act.put])
            (try simp only [List.setIfInBounds_toArray, List.set_cons_zero, List.set_cons_succ])
            refine wpAnyIn_take (i := 2) (v := undef) rfl rfl (by kernel_rfl) (by kernel_rfl) (by kernel_rfl) (fun _ _ _ h => h) ⟨Or.inr ⟨by rfl, rfl⟩, fun _ => rfl⟩ ?_
            (try simp only [Act.put])
            (try simp only [List.setIfInBounds_toArray, List.set_cons_zero, List.set_cons_succ])
            refine wpAnyIn_take (i := 4) (v := undef) rfl rfl (by kernel_rfl) (by kernel_rfl) (by kernel_rfl) (fun _ _ _ h => h) ⟨Or.inr ⟨by rfl, rfl⟩, fun _ => rfl⟩ ?_
            (try simp only [Act.put])
            (try simp only [List.setIfInBounds_toArray, List.set_cons_zero, List.set_cons_succ])
            refine wpAnyIn_ready (rs := [3]) (by kernel_rfl) (by simp) (AllReadyIn.cons rfl (fun K hK => ?_) AllReadyIn.nil)
            go_simp
            (first | refine ⟨trivial, ?_⟩ | refine ⟨fun _ _ => trivial, ?_⟩)
            refine hK _ _ ?_
            clear hK K
            (try simp only [Act.put])
            (try simp only [List.setIfInBounds_toArray, List.set_cons_zero, List.set_cons_succ])
            refine wpAnyIn_take (i := 5) (v := undef) rfl rfl (by kernel_rfl) (by kernel_rfl) (by kernel_rfl) (fun _ _ _ h => h) ⟨Or.inr ⟨by rfl, rfl⟩, fun _ => rfl⟩ ?_
            (try simp only [Act.put])
            (try simp only [List.setIfInBounds_toArray, List.set_cons_zero, List.set_cons_succ])
            refine wpAnyIn_take (i := 6) (v := ?_) rfl rfl (by kernel_rfl) (by kernel_rfl) (by kernel_rfl) (fun _ _ _ h => h) ⟨Or.inl ⟨by rfl, ?_⟩, fun _ => rfl⟩ ?_
            rotate_left
            · (intro w; go_simp; (try with_reducible rfl))
            (try simp only [Act.put])
            (try simp only [List.setIfInBounds_toArray, List.set_cons_zero, List.set_cons_succ])
            refine wpAnyIn_take (i := 7) (v := ?_) rfl rfl (by kernel_rfl) (by kernel_rfl) (by kernel_rfl) (fun _ _ _ h => h) ⟨Or.inl ⟨by rfl, ?_⟩, fun _ => rfl⟩ ?_
            rotate_left
            · (intro w; go_simp; (try with_reducible rfl))
            (try simp only [Act.put])
            (try simp only [List.setIfInBounds_toArray, List.set_cons_zero, List.set_cons_succ])
            refine wpAnyIn_take (i := 8) (v := undef) rfl rfl (by kernel_rfl) (by kernel_rfl) (by kernel_rfl) (fun _ _ _ h => h) ⟨Or.inr ⟨by rfl, rfl⟩, fun _ => rfl⟩ ?_
            (try simp only [Act.put])
            (try simp only [List.setIfInBounds_toArray, List.set_cons_zero, List.set_cons_succ])
            refine wpAnyIn_take (i := 9) (v := undef) rfl rfl (by kernel_rfl) (by kernel_rfl) (by kernel_rfl) (fun _ _ _ h => h) ⟨Or.inr ⟨by rfl, rfl⟩, fun _ => rfl⟩ ?_
            (try simp only [Act.put])
            (try simp only [List.setIfInBounds_toArray, List.set_cons_zero, List.set_cons_succ])
            refine wpAnyIn_take (i := 10) (v := undef) rfl rfl (by kernel_rfl) (by kernel_rfl) (by kernel_rfl) (fun _ _ _ h => h) ⟨Or.inr ⟨by rfl, rfl⟩, fun _ => rfl⟩ ?_
            (try simp only [Act.put])
            (try simp only [List.setIfInBounds_toArray, List.set_cons_zero, List.set_cons_succ])
            refine wpAnyIn_ready (rs := [11]) (by kernel_rfl) (by simp) (AllReadyIn.cons rfl (fun K hK => ?_) AllReadyIn.nil)
            go_simp
            (first | refine ⟨trivial, ?_⟩ | refine ⟨fun _ _ => trivial, ?_⟩)
            refine hK _ _ ?_
            clear hK K
            (try simp only [Act.put])
            (try simp only [List.setIfInBounds_toArray, List.set_cons_zero, List.set_cons_succ])
            refine wpAnyIn_take (i := 12) (v := undef) rfl rfl (by kernel_rfl) (by kernel_rfl) (by kernel_rfl) (fun _ _ _ h => h) ⟨Or.inr ⟨by rfl, rfl⟩, fun _ => rfl⟩ ?_
            (try simp only [Act.put])
            (try simp only [List.setIfInBounds_toArray, List.set_cons_zero, List.set_cons_succ])
            refine wpAnyIn_take (i := 13) (v := ?_) rfl rfl (by kernel_rfl) (by kernel_rfl) (by kernel_rfl) (fun _ _ _ h => h) ⟨Or.inl ⟨by rfl, ?_⟩, fun _ => rfl⟩ ?_
            rotate_left
            · (intro w; go_simp; (try with_reducible rfl))
            (try simp only [Act.put])
            (try simp only [List.setIfInBounds_toArray, List.set_cons_zero, List.set_cons_succ])
            refine wpAnyIn_done (by kernel_rfl) ?_ _
            gi_wp2
            go_roundw
            case rel => exact ⟨x + 1, by omega, by go_num, by rw [HN.out]; exact HJ.out _ _ _ HJ1.out (((Ext.new wr _).trans HX5.out).drew), X15.out.drew⟩
            case measure => simp [intOf]; omega
        · obtain rfl : x = ds.length := by omega
          gi_wp2
          go_roundw
          case rel => exact ⟨j + 1, by omega, by simp, by rw [Nat.succ_mul]; exact HJ1.out, HX1.out⟩
          case measure => simp [intOf]; omega
    · obtain rfl : j = 2 := by omega
      gi_wp2
      go_end0
      exact ⟨⟨_, rfl⟩, .inl ⟨_, rfl, HJ1.out⟩⟩
end Go.Proofs.Ytapgpjhogdmjbaa
