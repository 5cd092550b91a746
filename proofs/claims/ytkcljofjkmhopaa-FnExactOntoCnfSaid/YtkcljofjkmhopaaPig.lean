/-
  The pigeons' formula: the words, and the impl's Pigeonhole up to its clauses. Condition: 1 to 3 holes.
-/
import Derived.Test.YtkcljofjkmhopaaFam
import Derived.Test.YtkcljofjkmhopaaGood
namespace Go.Proofs.Ytkcljofjkmhopaa
open Go.RowKit
/-- The variable of pigeon k and hole h, both from 0 on. -/
def pv2 (m k h : Nat) : Int := (k : Int) * (m : Int) + ((h : Int) + 1)
def rowC (m k j : Nat) : List Int := (List.range j).map fun h => pv2 m k h
def clsA (m k : Nat) : List (List Int) := (List.range k).map fun i => rowC m i m
def pairC (m j i x : Nat) : List Int := [-(pv2 m i j), -(pv2 m x j)]
def clsP (m j i t : Nat) : List (List Int) := (List.range t).map fun d => pairC m j i (i + 1 + d)
def clsQ (m j i : Nat) : List (List Int) := (List.range i).flatMap fun x => clsP m j x (m - x)
def clsR (m j : Nat) : List (List Int) := (List.range j).flatMap fun y => clsQ m y (m + 1)
def cnf17 (m : Nat) : Cnf := ⟨((m : Int) + 1) * (m : Int), clsA m (m + 1) ++ clsR m m⟩
theorem rowC_succ (m k j : Nat) : rowC m k (j + 1) = rowC m k j ++ [pv2 m k j] := by simp [rowC, List.range_succ]
theorem clsA_succ (m k : Nat) : clsA m (k + 1) = clsA m k ++ [rowC m k m] := by simp [clsA, List.range_succ]
theorem clsP_succ (m j i t : Nat) : clsP m j i (t + 1) = clsP m j i t ++ [pairC m j i (i + 1 + t)] := by simp [clsP, List.range_succ]
theorem clsQ_succ (m j i : Nat) : clsQ m j (i + 1) = clsQ m j i ++ clsP m j i (m - i) := by simp [clsQ, List.range_succ]
theorem clsR_succ (m j : Nat) : clsR m (j + 1) = clsR m j ++ clsQ m j (m + 1) := by simp [clsR, List.range_succ]
theorem clsP_len (m j i t : Nat) : (clsP m j i t).length = t := by simp [clsP]
theorem clsQ_len (m j i : Nat) : (clsQ m j i).length ≤ i * m := by
  induction i with
  | zero => simp [clsQ]
  | succ i ih => rw [clsQ_succ, List.length_append, clsP_len, Nat.succ_mul]; omega
theorem clsR_len (m j : Nat) : (clsR m j).length ≤ j * ((m + 1) * m) := by
  induction j with
  | zero => simp [clsR]
  | succ j ih => rw [clsR_succ, List.length_append, Nat.succ_mul]; have := clsQ_len m j (m + 1); omega
theorem pv2_bd {m k h : Nat} (hm : m ≤ 3) (hk : k ≤ 3) (hh : h ≤ 3) : 1 ≤ pv2 m k h ∧ pv2 m k h ≤ 13 := by
  unfold pv2
  have hk4 : k = 0 ∨ k = 1 ∨ k = 2 ∨ k = 3 := by omega
  rcases hk4 with rfl | rfl | rfl | rfl <;> simp <;> omega
theorem pv2_mul {m k : Nat} (hm : m ≤ 3) (hk : k ≤ 4) : 0 ≤ (k : Int) * (m : Int) ∧ (k : Int) * (m : Int) ≤ 12 := by
  have := Nat.mul_le_mul hk hm
  have h2 : (k : Int) * (m : Int) = ((k * m : Nat) : Int) := by simp
  omega
theorem rowC_ok {m k : Nat} (hm : 1 ≤ m ∧ m ≤ 3) (hk : k ≤ 3) : (rowC m k m).Pairwise (fun a b => absI a < absI b) ∧ ∀ x ∈ rowC m k m, -1000 ≤ x ∧ x ≤ 1000 := by
  have key : ∀ m ∈ [1, 2, 3], ∀ k ∈ [0, 1, 2, 3], (rowC m k m).Pairwise (fun a b => absI a < absI b) ∧ ∀ x ∈ rowC m k m, -1000 ≤ x ∧ x ≤ 1000 := by decide
  exact key m (by simp; omega) k (by simp; omega)
theorem pairC_ok {m j i x : Nat} (hm : 1 ≤ m ∧ m ≤ 3) (hj : j < m) (hi : i < x) (hx : x ≤ m) : (pairC m j i x).Pairwise (fun a b => absI a < absI b) ∧ ∀ z ∈ pairC m j i x, -1000 ≤ z ∧ z ≤ 1000 := by
  have key : ∀ m ∈ [1, 2, 3], ∀ j ∈ [0, 1, 2], ∀ i ∈ [0, 1, 2, 3], ∀ x ∈ [0, 1, 2, 3], j < m → i < x → x ≤ m → (pairC m j i x).Pairwise (fun a b => absI a < absI b) ∧ ∀ z ∈ pairC m j i x, -1000 ≤ z ∧ z ≤ 1000 := by decide
  exact key m (by simp; omega) j (by simp; omega) i (by simp; omega) x (by simp; omega) hj hi hx
theorem cnf17_good {m : Nat} (hm : 1 ≤ m ∧ m ≤ 3) : goodB (cnf17 m) = true := by
  have key : ∀ m ∈ [1, 2, 3], goodB (cnf17 m) = true := by decide
  exact key m (by simp; omega)
theorem ext_set {a w : World} (h : Ext a w) {g i : Nat} (hg : a.heap.size ≤ g) (u : Value) : Ext a (w.setCell ⟨g, i, none⟩ u) :=
  ext_appS (v := .slice (some ⟨g, 0, none⟩) 0 0) h (grown_set (grown_refl w (some g)) i u) (fun x hx => by obtain rfl : g = x := Option.some.inj hx; exact hg)
theorem keep2 {w W : World} {p q : Addr} {u v : Value} (h : Ext w W) (c0 : w.cell? p = some u) (c1 : w.cell? q = some v) : (W.cell? p = some u ∧ W.cell? q = some v) ∧ Ext w W := ⟨⟨h.cell c0, h.cell c1⟩, h⟩
theorem blk2_set {w : World} {b : Nat} {x y x' y' : Value} {e : TypeId} (h : w.heap[b]? = some (.cells #[x, y] e)) : ((w.setCell ⟨b, 0, none⟩ x').setCell ⟨b, 1, none⟩ y').heap[b]? = some (.cells #[x', y'] e) := blk2_set1 (blk2_set0 h)
set_option maxHeartbeats 1600000 in
theorem i_cnf (w0 w : World) (bx : Nat) (n : Int) (lo : Nat) (ov : Value) (xss : List (List Int)) (hF : FamB w0 w bx 79 n lo ov xss) (hgood : goodB ⟨n, xss⟩ = true) (hbd : Bd_Cnf ⟨n, xss⟩) :
    Calls Try.prog 73 #[.pointer (some ⟨bx, 0, none⟩)] w (fun e w' => e = .returned (.tuple #[.agg #[.int .i64 n, ov], .bool true]) ∧ Ext w w') := by
  have HF := hd hF
  have HG := hd hgood
  have HBD := hd hbd
  obtain ⟨c0, c1⟩ := blk2 hF.blk
  have hbl := blk_lt hF.blk
  obtain ⟨A, c, rfl, h1, h2⟩ := hF.own.form
  clear hF hgood hbd
  have X1 : Hid (Ext w (w.alloc (.cells #[.int .i64 0, .slice none 0 0] 41))) := hd (Ext.new _ _)
  go_enter Try.func73, Try.ntmps73
  go_wp2_with fail
  go_region_held3 (fun w' => (w'.cell? ⟨bx, 0, none⟩ = some (.int .i64 n) ∧ w'.cell? ⟨bx, 1, none⟩ = some (.slice A xss.length c)) ∧ Ext w w')
    ((refine keep2 ?_ c0 c1; repeat (first | assumption | exact Ext.refl _ | apply Ext.drew | refine Ext.alloc ?_ _ | refine ext_set ?_ (by simp) _)))
    (fail)
  go_wp2_with fail
  have X2 : Hid (Ext w (((w.alloc (.cells #[.int .i64 0, .slice none 0 0] 41)).alloc (.cells #[.int .i64 n, .slice A xss.length c] 41)).drew)) := hd (((X1.out.alloc _)).drew)
  refine (rtx (i_IsCnf ⟨n, xss⟩ _ _ ⟨_, rfl, HF.out.own.rd.ext X2.out⟩ HBD.out) HG).mono ?_
  rintro e w3 ⟨rfl, hx3⟩
  have X3 := hd (X2.out.trans hx3)
  have B0 := hd (hx3.heap (Ext.heap ((Ext.refl _).drew) (blk_old (o' := .cells #[.int .i64 n, .slice A xss.length c] 41) (blk_new (w := w) (.cells #[.int .i64 0, .slice none 0 0] 41) rfl))))
  have B1 := hd (hx3.heap (Ext.heap ((Ext.refl _).drew) (blk_new (w := w.alloc (.cells #[.int .i64 0, .slice none 0 0] 41)) (.cells #[.int .i64 n, .slice A xss.length c] 41) (b := w.heap.size + 1) (by simp))))
  obtain ⟨k0, k1⟩ := blk2 B0.out
  obtain ⟨k2, k3⟩ := blk2f B0.out
  have k4 := blk_lt B0.out
  obtain ⟨m0, m1⟩ := blk2 B1.out
  have HC := hd (blk2_set (x' := .int .i64 n) (y' := .slice A xss.length c) B0.out)
  clear c0 c1 hx3
  go_wp2
  obtain ⟨p0, p1⟩ := blk2 HC.out
  exact bodyPost_ret (v := .tuple #[.agg #[.int .i64 n, .slice A xss.length c], .bool true]) (by simp [results, Try.results73, go_sem, p0, p1]) rfl ⟨rfl, ext_set (ext_set X3.out (Nat.le_refl _) _) (Nat.le_refl _) _⟩
theorem ownSS_nil (w : World) (lo hi : Nat) (eS eI : TypeId) : OwnSS w lo hi eS eI (.slice none 0 0) [] :=
  ⟨[], ⟨rfl, .inl ⟨rfl, rfl⟩⟩, (fun g hg => by cases hg), rfl, (fun i u xs h => by simp at h), (fun i j u u' g _ h => by simp at h)⟩
theorem cnf17_bd {m : Nat} (hm : 1 ≤ m ∧ m ≤ 3) : Bd_Cnf (cnf17 m) := by
  have key : ∀ m ∈ [1, 2, 3], (cnf17 m).cs.length ≤ 1048576 ∧ (∀ xs ∈ (cnf17 m).cs, xs.length ≤ 1048576) ∧ sumN (lens (cnf17 m).cs) ≤ 1048576 := by decide
  exact key m (by simp; omega)
set_option maxRecDepth 100000 in
set_option maxHeartbeats 6400000 in
theorem i_Pigeonhole (m : Nat) (hm : 1 ≤ m ∧ m ≤ 3) (w : World) : Calls Try.prog 121 #[.int .i64 ((m : Int) + 1), .int .i64 m] w (fun e w' => ∃ ov, e = .returned (.tuple #[.agg #[.int .i64 (((m : Int) + 1) * (m : Int)), ov], .bool true]) ∧ OwnSS w' w.heap.size w'.heap.size 23 3 ov (cnf17 m).cs ∧ Ext w w') := by
  have HQ1 : Hid (inB ((m : Int) + 1) 0 12 = true) := hd (inB_iff.2 (by omega))
  have HQ2 : Hid (inB (m : Int) 0 12 = true) := hd (inB_iff.2 (by omega))
  have HCN : Hid ((cnf17 m).cs = clsA m (m + 1) ++ clsR m m) := hd rfl
  have HGD : Hid (goodB ⟨((m : Int) + 1) * (m : Int), clsA m (m + 1) ++ clsR m m⟩ = true) := hd (cnf17_good hm)
  have HBD : Hid (Bd_Cnf ⟨((m : Int) + 1) * (m : Int), clsA m (m + 1) ++ clsR m m⟩) := hd (cnf17_bd hm)
  have HROW : Hid (∀ k, k ≤ 3 → _) := hd fun k hk => rowC_ok (m := m) (k := k) hm hk
  have HPAIR : Hid (∀ j i x, j < m → i < x → x ≤ m → _) := hd fun j i x h1 h2 h3 => pairC_ok (m := m) (j := j) (i := i) (x := x) hm h1 h2 h3
  obtain ⟨hm1, hm2⟩ := hm
  have hvm := pv2_mul (m := m) (k := m + 1) hm2 (by omega)
  rw [show ((m + 1 : Nat) : Int) = (m : Int) + 1 from by omega] at hvm
  obtain ⟨w0, hw0⟩ : ∃ w0 : World, w0 = w.alloc (.cells #[.int .i64 0, .slice none 0 0] 41) := ⟨_, rfl⟩
  have hs0 : w0.heap.size = w.heap.size + 1 := by rw [hw0]; simp
  have HR0 : Hid (w0.heap[w.heap.size]? = some (.cells #[.int .i64 0, .slice none 0 0] 41)) := hd (by rw [hw0]; exact blk_new _ rfl)
  have HX0 : Hid (Ext w w0) := hd (by rw [hw0]; exact Ext.new _ _)
  have HW0 := hd hw0
  have F0 : Hid (FamB w0 (w0.alloc (.cells #[.int .i64 (((m : Int) + 1) * (m : Int)), .slice none 0 0] 79)) (w.heap.size + 1) 79 (((m : Int) + 1) * (m : Int)) (w.heap.size + 1) (.slice none 0 0) (clsA m 0)) :=
    hd ⟨blk_new _ hs0, ownSS_nil _ _ _ _ _, Ext.new _ _, by omega, by omega, by simp; omega⟩
  generalize hV : ((m : Int) + 1) * (m : Int) = V at *
  clear hw0
  go_enter Try.func121, Try.ntmps121
  go_wp2_with fail
  refine (rt (i_within ((m : Int) + 1) 0 12 _) HQ1).mono ?_
  rintro e w1 ⟨rfl, rfl⟩
  go_wp2_with fail
  refine (rt (i_within (m : Int) 0 12 _) HQ2).mono ?_
  rintro e w1 ⟨rfl, rfl⟩
  rw [← HW0.out]
  go_wp2
  go_loopw [28] (fun x wr => ∃ k : Nat, k ≤ m + 1 ∧ x = .int .i64 (k : Int) ∧ ∃ ov, FamB w0 wr (w.heap.size + 1) 79 V (w.heap.size + 1) ov (clsA m k)) (fun x _ => m + 1 - (intOf x).toNat)
  case atStart => exact ⟨0, by omega, rfl, _, F0.out⟩
  case round =>
    obtain ⟨k, hk, rfl, ov, hF⟩ := hrel
    have HF := hd hF
    clear hF
    by_cases hlt : k < m + 1
    · have hmul := pv2_mul (m := m) (k := k) hm2 (by omega)
      have HS : Hid (clsA m (k + 1) = clsA m k ++ [rowC m k m]) := hd (clsA_succ m k)
      have hkl : k < (m : Int) + 1 := by omega
      have hkl2 : k ≤ m := by omega
      obtain ⟨wo, rfl⟩ : ∃ wo : World, wo = wr := ⟨_, rfl⟩
      go_wp2
      go_loopw [9, 8] (fun x pv wr => ∃ h : Nat, h ≤ m ∧ x = .int .i64 ((h : Int) + 1) ∧ OwnI wr wo.heap.size 3 pv (rowC m k h) ∧ Ext wo wr) (fun x _ _ => m + 1 - (intOf x).toNat)
      case atStart => exact ⟨0, by omega, rfl, ownI_nil _ _ _, Ext.refl _⟩
      case round =>
        obtain ⟨h, hh, rfl, ho, hx⟩ := hrel
        have HX := hd hx
        have HO := hd ho
        clear ho hx
        have hrl : (rowC m k h).length = h := by simp [rowC]
        by_cases hlt2 : h < m
        · have HS2 : Hid (rowC m k (h + 1) = rowC m k h ++ [(k : Int) * (m : Int) + ((h : Int) + 1)]) := hd (rowC_succ m k h)
          have hle : (h : Int) + 1 ≤ (m : Int) := by omega
          generalize hz : (k : Int) * (m : Int) = z at *
          go_wp2_with (at_builtin; refine appI wr HO.out rfl _ _ rfl _ (by rfl) (by rfl) (by omega) HX.out.size ?_; intro v' w1 ho1 hg1 _)
          go_roundw
          case rel => exact ⟨h + 1, by omega, by go_num, by rw [HS2.out]; exact ho1, ext_app HX.out hg1 (ownI_ge HO.out)⟩
          case measure => simp [intOf]; omega
        · obtain rfl : h = m := by omega
          have hcl : (clsA h k).length ≤ 1048576 := by simp [clsA]; omega
          obtain ⟨hr1, hr2⟩ := HROW.out k (by omega)
          go_wp2_with fail
          refine (i_add w0 _ _ V _ ov (clsA h k) (rowC h k h) (rowC h k h) _ (HF.out.on HX.out) HO.out.rd (by omega) hcl (hd (List.Perm.refl _)) (hd hr1) (hd hr2)).mono ?_
          rintro e w3 ⟨rfl, ov3, hF3⟩
          go_wp2
          go_roundw
          case rel => exact ⟨k + 1, by omega, by go_num, ov3, by rw [HS.out]; exact hF3⟩
          case measure => simp [intOf]; omega
    · have hkm : k = m + 1 := by omega
      have HF : Hid (FamB w0 wr (w.heap.size + 1) 79 V (w.heap.size + 1) ov (clsA m (m + 1))) := hd (by have := HF.out; rw [hkm] at this; exact this)
      clear hkm
      have hLA : (clsA m (m + 1)).length = m + 1 := by simp [clsA]
      have F1 : Hid (FamB w0 wr (w.heap.size + 1) 79 V (w.heap.size + 1) ov (clsA m (m + 1) ++ clsR m 0)) := hd (by rw [show clsR m 0 = [] from rfl, List.append_nil]; exact HF.out)
      obtain ⟨wo, rfl⟩ : ∃ wo : World, wo = wr := ⟨_, rfl⟩
      go_wp2
      go_loopw [10] (fun x wr => ∃ j : Nat, j ≤ m ∧ x = .int .i64 ((j : Int) + 1) ∧ ∃ ov, FamB w0 wr (w.heap.size + 1) 79 V (w.heap.size + 1) ov (clsA m (m + 1) ++ clsR m j)) (fun x _ => m + 1 - (intOf x).toNat)
      case atStart => exact ⟨0, by omega, rfl, _, F1.out⟩
      case round =>
        obtain ⟨j, hj, rfl, ov, hF⟩ := hrel
        have HF3 := hd hF
        clear hF HF F1
        have hLR := clsR_len m j
        have hLR2 : j * ((m + 1) * m) ≤ 3 * (4 * 3) := Nat.mul_le_mul (by omega) (Nat.mul_le_mul (by omega) hm2)
        by_cases hltj : j < m
        · have hle : (j : Int) + 1 ≤ (m : Int) := by omega
          have HSR : Hid (clsR m (j + 1) = clsR m j ++ clsQ m j (m + 1)) := hd (clsR_succ m j)
          have F4 : Hid (FamB w0 wr (w.heap.size + 1) 79 V (w.heap.size + 1) ov (clsA m (m + 1) ++ clsR m j ++ clsQ m j 0)) := hd (by rw [show clsQ m j 0 = [] from rfl, List.append_nil]; exact HF3.out)
          obtain ⟨wo, rfl⟩ : ∃ wo : World, wo = wr := ⟨_, rfl⟩
          go_wp2
          go_loopw [54] (fun x wr => ∃ i : Nat, i ≤ m + 1 ∧ x = .int .i64 (i : Int) ∧ ∃ ov, FamB w0 wr (w.heap.size + 1) 79 V (w.heap.size + 1) ov (clsA m (m + 1) ++ clsR m j ++ clsQ m j i)) (fun x _ => m + 1 - (intOf x).toNat)
          case atStart => exact ⟨0, by omega, rfl, _, F4.out⟩
          case round =>
            obtain ⟨i, hi, rfl, ov, hF⟩ := hrel
            have HF4 := hd hF
            clear hF F4 HF3
            have hLQ := clsQ_len m j i
            have hLQ2 : i * m ≤ 4 * 3 := Nat.mul_le_mul (by omega) hm2
            by_cases hlti : i < m + 1
            · have hil : (i : Int) < (m : Int) + 1 := by omega
              have hil2 : i ≤ m := by omega
              have hmul1 := pv2_mul (m := m) (k := i) hm2 (by omega)
              have HSQ : Hid (clsQ m j (i + 1) = clsQ m j i ++ clsP m j i (m - i)) := hd (clsQ_succ m j i)
              have F5 : Hid (FamB w0 wr (w.heap.size + 1) 79 V (w.heap.size + 1) ov (clsA m (m + 1) ++ clsR m j ++ clsQ m j i ++ clsP m j i (i + 1 - (i + 1)))) := hd (by rw [Nat.sub_self, show clsP m j i 0 = [] from rfl, List.append_nil]; exact HF4.out)
              obtain ⟨wo, rfl⟩ : ∃ wo : World, wo = wr := ⟨_, rfl⟩
              go_wp2
              go_loopw [12] (fun x wr => ∃ X : Nat, i < X ∧ X ≤ m + 1 ∧ x = .int .i64 (X : Int) ∧ ∃ ov, FamB w0 wr (w.heap.size + 1) 79 V (w.heap.size + 1) ov (clsA m (m + 1) ++ clsR m j ++ clsQ m j i ++ clsP m j i (X - (i + 1)))) (fun x _ => m + 1 - (intOf x).toNat)
              case atStart => exact ⟨i + 1, by omega, by omega, by go_num, _, F5.out⟩
              case round =>
                obtain ⟨X, hX1, hX2, rfl, ov, hF⟩ := hrel
                have HF5 := hd hF
                clear hF F5 HF4
                by_cases hltX : X < m + 1
                · have hXl : (X : Int) < (m : Int) + 1 := by omega
                  have hmul2 := pv2_mul (m := m) (k := X) hm2 (by omega)
                  have HSP : Hid (clsP m j i (X + 1 - (i + 1)) = clsP m j i (X - (i + 1)) ++ [pairC m j i X]) := hd (by
                    obtain ⟨t, rfl⟩ : ∃ t, X = i + 1 + t := ⟨X - (i + 1), by omega⟩
                    rw [show i + 1 + t + 1 - (i + 1) = t + 1 from by omega, show i + 1 + t - (i + 1) = t from by omega]
                    exact clsP_succ m j i t)
                  have hLP : (clsP m j i (X - (i + 1))).length = X - (i + 1) := clsP_len _ _ _ _
                  have hln : (clsA m (m + 1) ++ clsR m j ++ clsQ m j i ++ clsP m j i (X - (i + 1))).length ≤ 1048576 := by
                    simp only [List.length_append, hLA, hLP]; omega
                  have HPC : Hid (pairC m j i X = [-((i : Int) * (m : Int) + ((j : Int) + 1)), -((X : Int) * (m : Int) + ((j : Int) + 1))]) := hd rfl
                  obtain ⟨hp1, hp2⟩ := HPAIR.out j i X hltj hX1 (by omega)
                  generalize hz1 : (i : Int) * (m : Int) = z1 at *
                  generalize hz2 : (X : Int) * (m : Int) = z2 at *
                  have hw1 : IntKind.i64.wrap (-(z1 + ((j : Int) + 1))) = -(z1 + ((j : Int) + 1)) := IntWalk.i64_in _ (by omega)
                  have hw2 : IntKind.i64.wrap (-(z2 + ((j : Int) + 1))) = -(z2 + ((j : Int) + 1)) := IntWalk.i64_in _ (by omega)
                  obtain ⟨wo, rfl⟩ : ∃ wo : World, wo = wr := ⟨_, rfl⟩
                  go_wp2_with fail
                  refine (i_add w0 _ _ V _ ov _ [-(z1 + ((j : Int) + 1)), -(z2 + ((j : Int) + 1))] (pairC m j i X) _ (HF5.out.on (Ext.new _ _)) (rdI_pair (heap_alloc_new _ _)) (by simp) hln (hd (by rw [HPC.out])) (hd hp1) (hd hp2)).mono ?_
                  rintro e w3 ⟨rfl, ov3, hF3⟩
                  go_wp2
                  go_roundw
                  case rel => exact ⟨X + 1, by omega, by omega, by go_num, ov3, by rw [HSP.out, ← List.append_assoc]; exact hF3⟩
                  case measure => simp [intOf]; omega
                · obtain rfl : X = m + 1 := by omega
                  go_wp2
                  go_roundw
                  case rel => exact ⟨i + 1, by omega, by go_num, ov, by rw [HSQ.out, ← List.append_assoc]; have := HF5.out; rw [show m + 1 - (i + 1) = m - i from by omega] at this; exact this⟩
                  case measure => simp [intOf]; omega
            · obtain rfl : i = m + 1 := by omega
              go_wp2
              go_roundw
              case rel => exact ⟨j + 1, by omega, by go_num, ov, by rw [HSR.out, ← List.append_assoc]; exact HF4.out⟩
              case measure => simp [intOf]; omega
        · obtain rfl : j = m := by omega
          have XF := hd HF3.out.ext
          have B0 := hd (XF.out.heap HR0.out)
          obtain ⟨A9, c9, rfl, h91, h92⟩ := HF3.out.own.form
          go_wp2_with fail
          refine (i_cnf w0 _ _ V _ _ _ HF3.out HGD.out HBD.out).mono ?_
          rintro e w3 ⟨rfl, hx3⟩
          have B3 := hd (hx3.heap B0.out)
          have OW := hd ((HF3.out.own.ext hx3).hi_le hx3.size)
          have X3 := hd (HX0.out.trans (XF.out.trans hx3))
          obtain ⟨k0, k1⟩ := blk2 B3.out
          obtain ⟨k2, k3⟩ := blk2f B3.out
          have k4 := blk_lt B3.out
          generalize hL : (clsA j (j + 1) ++ clsR j j).length = L at *
          have HC := hd (blk2_set (x' := .int .i64 V) (y' := .slice A9 L c9) B3.out)
          have hg3 := grown_set (grown_set (grown_refl w3 (some w.heap.size)) 0 (.int .i64 V)) 1 (.slice A9 L c9)
          have OW2 := hd (((OW.out.box B3.out (by decide) (by decide) hg3).hi_le hg3.size).lo_le (lo' := w.heap.size) (by omega))
          have X4 := hd (ext_set (i := 1) (ext_set (i := 0) X3.out (Nat.le_refl _) (.int .i64 V)) (Nat.le_refl _) (.slice A9 L c9))
          clear hx3 hg3
          go_wp2
          obtain ⟨p0, p1⟩ := blk2 HC.out
          exact bodyPost_ret (v := .tuple #[.agg #[.int .i64 V, .slice A9 L c9], .bool true]) (by simp [results, Try.results121, go_sem, p0, p1]) rfl ⟨_, rfl, by rw [HCN.out]; exact OW2.out, X4.out⟩
end Go.Proofs.Ytkcljofjkmhopaa
