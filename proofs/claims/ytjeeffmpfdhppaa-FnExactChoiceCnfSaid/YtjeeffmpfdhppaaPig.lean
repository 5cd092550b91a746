/-
  The pigeons' formula: the words, and the impl's Pigeonhole up to its clauses. Condition: 1 to 3 holes.
-/
import Derived.Test.YtjeeffmpfdhppaaFam
import Derived.Test.YtjeeffmpfdhppaaGood
namespace Go.Proofs.Ytjeeffmpfdhppaa
open Go.RowKit
/-- The variable of pigeon k and hole h, both from 0 on. -/
def pv2 (m k h : Nat) : Int := (k : Int) * (m : Int) + ((h : Int) + 1)
def rowC (m k j : Nat) : List Int := (List.range j).map fun h => pv2 m k h
def clsA (m k : Nat) : List (List Int) := (List.range k).map fun i => rowC m i m
def pairC (m j i x : Nat) : List Int := [-(pv2 m i j), -(pv2 m x j)]
def clsP (m j i t : Nat) : List (List Int) := (List.range t).map fun d => pairC m j i (i + 1 + d)
def clsQ (m j i : Nat) : List (List Int) := (List.range i).flatMap fun x => clsP m j x (m - x)
def clsR (m j : Nat) : List (List Int) := (List.range j).flatMap fun y => clsQ m y (m + 1)
def cnf17 (m : Nat) : Cnf := ⟨((m : Int) + 1) * (m : Int), clsA m (m + 1) ++ clsR m m⟩
theorem rowC_succ (m k j : Nat) : rowC m k (j + 1) = rowC m k j ++ [pv2 m k j] := by simp [rowC, List.range_succ]
theorem clsA_succ (m k : Nat) : clsA m (k + 1) = clsA m k ++ [rowC m k m] := by simp [clsA, List.range_succ]
theorem clsP_succ (m j i t : Nat) : clsP m j i (t + 1) = clsP m j i t ++ [pairC m j i (i + 1 + t)] := by simp [clsP, List.range_succ]
theorem clsQ_succ (m j i : Nat) : clsQ m j (i + 1) = clsQ m j i ++ clsP m j i (m - i) := by simp [clsQ, List.range_succ]
theorem clsR_succ (m j : Nat) : clsR m (j + 1) = clsR m j ++ clsQ m j (m + 1) := by simp [clsR, List.range_succ]
theorem clsP_len (m j i t : Nat) : (clsP m j i t).length = t := by simp [clsP]
theorem clsQ_len (m j i : Nat) : (clsQ m j i).length ≤ i * m := by
  induction i with
  | zero => simp [clsQ]
  | succ i ih => rw [clsQ_succ, List.length_append, clsP_len, Nat.succ_mul]; omega
theorem clsR_len (m j : Nat) : (clsR m j).length ≤ j * ((m + 1) * m) := by
  induction j with
  | zero => simp [clsR]
  | succ j ih => rw [clsR_succ, List.length_append, Nat.succ_mul]; have := clsQ_len m j (m + 1); omega
theorem pv2_bd {m k h : Nat} (hm : m ≤ 3) (hk : k ≤ 3) (hh : h ≤ 3) : 1 ≤ pv2 m k h ∧ pv2 m k h ≤ 13 := by
  unfold pv2
  have hk4 : k = 0 ∨ k = 1 ∨ k = 2 ∨ k = 3 := by omega
  rcases hk4 with rfl | rfl | rfl | rfl <;> simp <;> omega
theorem pv2_mul {m k : Nat} (hm : m ≤ 3) (hk : k ≤ 4) : 0 ≤ (k : Int) * (m : Int) ∧ (k : Int) * (m : Int) ≤ 12 := by
  have := Nat.mul_le_mul hk hm
  have h2 : (k : Int) * (m : Int) = ((k * m : Nat) : Int) := by simp
  omega
theorem rowC_ok {m k : Nat} (hm : 1 ≤ m ∧ m ≤ 3) (hk : k ≤ 3) : (rowC m k m).Pairwise (fun a b => absI a < absI b) ∧ ∀ x ∈ rowC m k m, -1000 ≤ x ∧ x ≤ 1000 := by
  have key : ∀ m ∈ [1, 2, 3], ∀ k ∈ [0, 1, 2, 3], (rowC m k m).Pairwise (fun a b => absI a < absI b) ∧ ∀ x ∈ rowC m k m, -1000 ≤ x ∧ x ≤ 1000 := by decide
  exact key m (by simp; omega) k (by simp; omega)
theorem pairC_ok {m j i x : Nat} (hm : 1 ≤ m ∧ m ≤ 3) (hj : j < m) (hi : i < x) (hx : x ≤ m) : (pairC m j i x).Pairwise (fun a b => absI a < absI b) ∧ ∀ z ∈ pairC m j i x, -1000 ≤ z ∧ z ≤ 1000 := by
  have key : ∀ m ∈ [1, 2, 3], ∀ j ∈ [0, 1, 2], ∀ i ∈ [0, 1, 2, 3], ∀ x ∈ [0, 1, 2, 3], j < m → i < x → x ≤ m → (pairC m j i x).Pairwise (fun a b => absI a < absI b) ∧ ∀ z ∈ pairC m j i x, -1000 ≤ z ∧ z ≤ 1000 := by decide
  exact key m (by simp; omega) j (by simp; omega) i (by simp; omega) x (by simp; omega) hj hi hx
theorem cnf17_good {m : Nat} (hm : 1 ≤ m ∧ m ≤ 3) : goodB (cnf17 m) = true := by
  have key : ∀ m ∈ [1, 2, 3], goodB (cnf17 m) = true := by decide
  exact key m (by simp; omega)
theorem ext_set {a w : World} (h : Ext a w) {g i : Nat} (hg : a.heap.size ≤ g) (u : Value) : Ext a (w.setCell ⟨g, i, none⟩ u) :=
  ext_appS (v := .slice (some ⟨g, 0, none⟩) 0 0) h (grown_set (grown_refl w (some g)) i u) (fun x hx => by obtain rfl : g = x := Option.some.inj hx; exact hg)
theorem keep2 {w W : World} {p q : Addr} {u v : Value} (h : Ext w W) (c0 : w.cell? p = some u) (c1 : w.cell? q = some v) : (W.cell? p = some u ∧ W.cell? q = some v) ∧ Ext w W := ⟨⟨h.cell c0, h.cell c1⟩, h⟩
theorem blk2_set {w : World} {b : Nat} {x y x' y' : Value} {e : TypeId} (h : w.heap[b]? = some (.cells #[x, y] e)) : ((w.setCell ⟨b, 0, none⟩ x').setCell ⟨b, 1, none⟩ y').heap[b]? = some (.cells #[x', y'] e) := blk2_set1 (blk2_set0 h)
set_option maxHeartbeats 1600000 in
theorem i_cnf (w0 w : World) (bx : Nat) (n : Int) (lo : Nat) (ov : Value) (xss : List (List Int)) (hF : FamB w0 w bx 109 n lo ov xss) (hgood : goodB ⟨n, xss⟩ = true) (hbd : Bd_Cnf ⟨n, xss⟩) :
    Calls Try.prog 91 #[.pointer (some ⟨bx, 0, none⟩)] w (fun e w' => e = .returned (.tuple #[.agg #[.int .i64 n, ov], .bool true]) ∧ Ext w w') := by
  have HF := hd hF
  have HG := hd hgood
  have HBD := hd hbd
  obtain ⟨c0, c1⟩ := blk2 hF.blk
  have hbl := blk_lt hF.blk
  obtain ⟨A, c, rfl, h1, h2⟩ := hF.own.form
  clear hF hgood hbd
  have X1 : Hid (Ext w (w.alloc (.cells #[.int .i64 0, .slice none 0 0] 31))) := hd (Ext.new _ _)
  go_enter Try.func91, Try.ntmps91
  go_wp2_with fail
  go_region_held3 (fun w' => (w'.cell? ⟨bx, 0, none⟩ = some (.int .i64 n) ∧ w'.cell? ⟨bx, 1, none⟩ = some (.slice A xss.length c)) ∧ Ext w w')
    ((refine keep2 ?_ c0 c1; repeat (first | assumption | exact Ext.refl _ | apply Ext.drew | refine Ext.alloc ?_ _ | refine ext_set ?_ (by simp) _)))
    (fail)
  go_wp2_with fail
  have X2 : Hid (Ext w (((w.alloc (.cells #[.int .i64 0, .slice none 0 0] 31)).alloc (.cells #[.int .i64 n, .slice A xss.length c] 31)).drew)) := hd (((X1.out.alloc _)).drew)
  refine (rtx (i_IsCnf ⟨n, xss⟩ _ _ ⟨_, rfl, HF.out.own.rd.ext X2.out⟩ HBD.out) HG).mono ?_
  rintro e w3 ⟨rfl, hx3⟩
  have X3 := hd (X2.out.trans hx3)
  have B0 := hd (hx3.heap (Ext.heap ((Ext.refl _).drew) (blk_old (o' := .cells #[.int .i64 n, .slice A xss.length c] 31) (blk_new (w := w) (.cells #[.int .i64 0, .slice none 0 0] 31) rfl))))
  have B1 := hd (hx3.heap (Ext.heap ((Ext.refl _).drew) (blk_new (w := w.alloc (.cells #[.int .i64 0, .slice none 0 0] 31)) (.cells #[.int .i64 n, .slice A xss.length c] 31) (b := w.heap.size + 1) (by simp))))
  obtain ⟨k0, k1⟩ := blk2 B0.out
  obtain ⟨k2, k3⟩ := blk2f B0.out
  have k4 := blk_lt B0.out
  obtain ⟨m0, m1⟩ := blk2 B1.out
  have HC := hd (blk2_set (x' := .int .i64 n) (y' := .slice A xss.length c) B0.out)
  clear c0 c1 hx3
  go_wp2
  obtain ⟨p0, p1⟩ := blk2 HC.out
  exact bodyPost_ret (v := .tuple #[.agg #[.int .i64 n, .slice A xss.length c], .bool true]) (by simp [results, Try.results91, go_sem, p0, p1]) rfl ⟨rfl, ext_set (ext_set X3.out (Nat.le_refl _) _) (Nat.le_refl _) _⟩
theorem ownSS_nil (w : World) (lo hi : Nat) (eS eI : TypeId) : OwnSS w lo hi eS eI (.slice none 0 0) [] :=
  ⟨[], ⟨rfl, .inl ⟨rfl, rfl⟩⟩, (fun g hg => by cases hg), rfl, (fun i u xs h => by simp at h), (fun i j u u' g _ h => by simp at h)⟩
theorem cnf17_bd {m : Nat} (hm : 1 ≤ m ∧ m ≤ 3) : Bd_Cnf (cnf17 m) := by
  have key : ∀ m ∈ [1, 2, 3], (cnf17 m).cs.length ≤ 1048576 ∧ (∀ xs ∈ (cnf17 m).cs, xs.length ≤ 1048576) ∧ sumN (lens (cnf17 m).cs) ≤ 1048576 := by decide
  exact key m (by simp; omega)
end Go.Proofs.Ytjeeffmpfdhppaa
