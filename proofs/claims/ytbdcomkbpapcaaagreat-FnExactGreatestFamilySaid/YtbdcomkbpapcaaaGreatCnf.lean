import Derived.Test.YtbdcomkbpapcaaaGreatLaw
import Derived.Test.YtbdcomkbpapcaaaGreatPair
/-
  Formulas in conjunctive normal form as values: the words, and the laws' own helpers on them. Conditions: sizes up to 2^20.
-/

namespace Go.Proofs.YtbdcomkbpapcaaaGreat
open Go.RowKit

theorem OwnSS.lo_le {w : World} {lo hi lo' : Nat} {eS eI : TypeId} {v : Value} {xss : List (List Int)} (h : OwnSS w lo hi eS eI v xss) (hh : lo' ≤ lo) : OwnSS w lo' hi eS eI v xss := by
  obtain ⟨vs, h1, h2, h3⟩ := h
  exact ⟨vs, own_rebase h1 hh, h2, h3.1, fun i u xs a b => ⟨own_rebase (h3.2.1 i u xs a b).1 hh, (h3.2.1 i u xs a b).2⟩, h3.2.2⟩
structure Cnf where
  n : Int
  cs : List (List Int)
def Rd_Cnf (w : World) (v : Value) (f : Cnf) : Prop := ∃ vc, v = .agg #[.int .i64 f.n, vc] ∧ RdSS w vc f.cs
def I64_Cnf (f : Cnf) : Prop := I64 f.n ∧ I64_IntSS f.cs
def Own_Cnf (w : World) (lo hi : Nat) (v : Value) (f : Cnf) : Prop := ∃ vc, v = .agg #[.int .i64 f.n, vc] ∧ OwnSS w lo hi 37 3 vc f.cs
def Bd_Cnf (f : Cnf) : Prop := Bd_IntSS f.cs
def len_Cnf (f : Cnf) : Nat := len_IntSS f.cs
def sz_Cnf (f : Cnf) (left : Int) : Int := szII f.cs left
def Mk_Cnf (w : World) (v : Value) (f : Cnf) (k0 : Int) : Prop := ∃ vc, v = .agg #[.int .i64 f.n, vc] ∧ RdSS w vc (seqII k0 (lens f.cs))
section
variable {w w' : World} {lo hi : Nat} {v : Value} {f : Cnf} {k0 : Int}
theorem Rd_Cnf.ext (h : Rd_Cnf w v f) (he : Ext w w') : Rd_Cnf w' v f := by
  obtain ⟨vc, h1, h2⟩ := h
  exact ⟨vc, h1, h2.ext he⟩
theorem Rd_Cnf.form (h : Rd_Cnf w v f) : ∃ A c, v = .agg #[.int .i64 f.n, .slice A f.cs.length c] := by
  obtain ⟨vc, rfl, h2⟩ := h
  obtain ⟨A, c, rfl, _⟩ := h2.form
  exact ⟨A, c, rfl⟩
theorem Own_Cnf.ext (h : Own_Cnf w lo hi v f) (he : Ext w w') : Own_Cnf w' lo hi v f := by
  obtain ⟨vc, h1, h2⟩ := h
  exact ⟨vc, h1, h2.ext he⟩
theorem Own_Cnf.rd (h : Own_Cnf w lo hi v f) : Rd_Cnf w v f := by
  obtain ⟨vc, h1, h2⟩ := h
  exact ⟨vc, h1, h2.rd⟩
theorem Own_Cnf.touch {lo' hi' : Nat} (h : Own_Cnf w lo hi v f) (ht : Touch lo' hi' w w') (hd : hi ≤ lo' ∨ hi' ≤ lo) : Own_Cnf w' lo hi v f := by
  obtain ⟨vc, h1, h2⟩ := h
  exact ⟨vc, h1, h2.touch ht hd⟩
theorem Own_Cnf.form (h : Own_Cnf w lo hi v f) : ∃ A c, v = .agg #[.int .i64 f.n, .slice A f.cs.length c] ∧ Hid (Own_Cnf w lo hi (.agg #[.int .i64 f.n, .slice A f.cs.length c]) f) := by
  have h' := h
  obtain ⟨vc, rfl, h2⟩ := h'
  obtain ⟨A, c, rfl, _⟩ := h2.form
  exact ⟨A, c, rfl, hd h⟩
theorem Mk_Cnf.ext (h : Mk_Cnf w v f k0) (he : Ext w w') : Mk_Cnf w' v f k0 := by
  obtain ⟨vc, h1, h2⟩ := h
  exact ⟨vc, h1, h2.ext he⟩
theorem sz_Cnf_bd (f : Cnf) (left : Int) (h : left ≤ 1048576) : -1 ≤ sz_Cnf f left ∧ sz_Cnf f left ≤ 1048576 := szII_bd _ _ h
theorem sz_Cnf_ok {f : Cnf} {left : Int} (h : ¬ sz_Cnf f left < 0) (hl : left ≤ 1048576) : Bd_Cnf f := sz_IntSS_ok h hl
theorem len_Cnf_bd {f : Cnf} (h : Bd_Cnf f) : len_Cnf f ≤ 100000000 := len_IntSS_bd h
end
set_option maxHeartbeats 800000 in
theorem u_sz_Cnf (f : Cnf) (v : Value) (left : Int) (w : World) (h : Rd_Cnf w v f) (h2 : 0 ≤ left) (h3 : left ≤ 1048576) : Calls Tryz.prog 4 #[v, .int .i64 left] w (RetX w (.int .i64 (sz_Cnf f left))) := by
  obtain ⟨vc, rfl, hC⟩ := h
  have hbd := szII_bd f.cs left h3
  unfold sz_Cnf
  have HC := hd (RdSS.ext hC (Ext.new w (.cells #[.int .i64 f.n, vc] 24)))
  have c := l_szIntSS f.cs vc left (w.alloc (.cells #[.int .i64 f.n, vc] 24)) HC.out h2 h3
  generalize szII f.cs left = z at *
  have C := hd c
  clear c
  clear hC
  go_enter Tryz.func4, Tryz.ntmps4
  by_cases h0 : z < 0
  · obtain rfl : z = -1 := by omega
    go_wp2_with fail
    refine (C.out).mono ?_
    rintro e w1 ⟨rfl, rfl⟩
    go_wp2
    go_ret
    exact RetX.mk rfl (Ext.new _ _)
  · go_wp2_with fail
    refine (C.out).mono ?_
    rintro e w1 ⟨rfl, rfl⟩
    go_wp2
    go_ret
    exact RetX.mk rfl (Ext.new _ _)
set_option maxHeartbeats 800000 in
theorem u_to_Cnf (f : Cnf) (v : Value) (w : World) (h : Rd_Cnf w v f) (b : Bd_Cnf f) : Calls Tryz.prog 6 #[v] w (fun e w' => ∃ u, e = .returned u ∧ Own_Cnf w' w.heap.size w'.heap.size u f ∧ Ext w w') := by
  obtain ⟨vc, rfl, hC⟩ := h
  have HC := hd hC
  clear hC
  go_enter Tryz.func6, Tryz.ntmps6
  go_wp2_with fail
  refine (u_to_IntSS f.cs _ _ (HC.out.ext (by exact ((Ext.new _ _).alloc _).alloc _)) b).mono ?_
  rintro e w1 ⟨u1, rfl, hu1, hx1⟩
  have X1 : Hid (Ext w w1) := hd (Ext.trans (by exact ((Ext.new _ _).alloc _).alloc _) hx1)
  have B1 := hd (hx1.heap (g := w.heap.size + 1) (o := .cells #[.int .i64 0, .slice none 0 0] 28) (blk_old (blk_new _ (by simp))))
  have B2 := hd (hx1.heap (g := w.heap.size + 1 + 1) (o := .cells #[.int .i64 f.n, .slice none 0 0] 28) (blk_new _ (by simp)))
  have hs1 : w.heap.size + 1 + 1 < w1.heap.size := by have := hx1.size; simp at this; omega
  have O1 : Hid (OwnSS w1 (w.heap.size + 1 + 1 + 1) w1.heap.size 37 3 u1 f.cs) := hd (by simpa [Own_IntSS] using hu1)
  obtain ⟨A1, n1, rfl, _⟩ := hu1.form
  clear hu1 hx1
  obtain ⟨c0, c1⟩ := blk2 B2.out
  obtain ⟨f0, f1⟩ := blk2f B2.out
  obtain ⟨d0, d1⟩ := blk2 B1.out
  obtain ⟨g0, g1⟩ := blk2f B1.out
  go_wp2
  have HT : Hid (∀ u0 u1 u2, Touch (w.heap.size + 1) (w.heap.size + 1 + 1 + 1) w1 (((w1.setCell ⟨w.heap.size + 1 + 1, 1, none⟩ u0).setCell ⟨w.heap.size + 1, 0, none⟩ u1).setCell ⟨w.heap.size + 1, 1, none⟩ u2)) := hd fun u0 u1 u2 =>
    (((Touch.refl _ _ _).setCell (by simp) (by simp) _).setCell (by simp) (by simp) _).setCell (by simp) (by simp) _
  refine bodyPost_ret (v := .agg #[.int .i64 f.n, .slice A1 f.cs.length n1]) (by simp [results, Tryz.results6, go_sem, d0, d1]) rfl ⟨_, rfl, ⟨_, rfl, ?_⟩, ((X1.out.setCell (by simp; omega) _).setCell (by simp) _).setCell (by simp) _⟩
  exact ((O1.out.touch (HT.out _ _ _) (.inr (by omega))).lo_le (by omega)).hi_le (by simp)
set_option maxHeartbeats 800000 in
theorem u_eq_Cnf (f : Cnf) (v v' : Value) (w : World) (h : Rd_Cnf w v f) (h' : Rd_Cnf w v' f) (b : Bd_Cnf f) : Calls Tryz.prog 9 #[v, v'] w (RetX w (.bool true)) := by
  obtain ⟨vc, rfl, hC⟩ := h
  obtain ⟨vc', rfl, hC'⟩ := h'
  have HC := hd hC
  have HC' := hd hC'
  clear hC hC'
  have hb : ∀ n : Int, (n != n) = false := fun n => by simp
  have hbn := hb f.n
  clear hb
  go_enter Tryz.func9, Tryz.ntmps9
  have X0 : Hid (Ext w ((w.alloc (.cells #[.int .i64 f.n, vc] 28)).alloc (.cells #[.int .i64 f.n, vc'] 28))) := hd ((Ext.new _ _).alloc _)
  go_wp2_with fail
  refine (u_eq_IntSS f.cs _ _ _ (HC.out.ext X0.out) (HC'.out.ext X0.out) b).mono ?_
  rintro e w1 ⟨rfl, hx1⟩
  have X1 := hd (X0.out.trans hx1)
  clear X0 hx1
  go_wp2
  go_ret
  exact RetX.mk rfl X1.out
set_option maxHeartbeats 800000 in
theorem u_mark_Cnf (f : Cnf) (v : Value) (k0 : Int) (w : World) (lo hi : Nat) (h : Own_Cnf w lo hi v f) (hh : hi ≤ w.heap.size) (b : Bd_Cnf f) (hk0 : 0 ≤ k0) (hk1 : k0 ≤ 1000000000) :
    Calls Tryz.prog 10 #[v, .int .i64 k0] w fun e w' => e = .returned (.int .i64 (k0 + len_Cnf f)) ∧ Mk_Cnf w' v f k0 ∧ Touch lo hi w w' := by
  obtain ⟨vc, rfl, hC⟩ := h
  have HC := hd (OwnSS.ext hC (Ext.new w (.cells #[.int .i64 f.n, vc] 28)))
  clear hC
  go_enter Tryz.func10, Tryz.ntmps10
  go_wp2_with fail
  refine (u_mark_IntSS f.cs _ k0 _ lo hi HC.out (by simp; omega) b hk0 hk1).mono ?_
  rintro e w1 ⟨rfl, hm, ht⟩
  have HM := hd hm
  have HT : Hid (Touch lo hi w w1) := hd ((Touch.of_ext (Ext.new _ _)).trans ht)
  clear hm ht
  go_wp2
  go_ret
  exact ⟨rfl, ⟨vc, rfl, HM.out⟩, HT.out⟩
set_option maxHeartbeats 800000 in
theorem l_heldIntSS (xss : List (List Int)) (v : Value) (k0 : Int) (w : World) (h : RdSS w v (seqII k0 (lens xss))) (hl : xss.length ≤ 1073741824) (hs : sumN (lens xss) ≤ 1073741824) (hk0 : 0 ≤ k0) (hk1 : k0 ≤ 1000000000000) :
    Calls Tryz.prog 12 #[v, .int .i64 k0] w (Ret w (.int .i64 (k0 + sumN (lens xss)))) := by
  obtain ⟨A, c, rfl, h1, h2, ha⟩ := h.form
  rw [length_seqII, length_lens] at *
  have hle2 : Hid (∀ k, sumN ((lens xss).take k) ≤ 1073741824) := hd fun k => Nat.le_trans (sumN_take_le _ _) hs
  clear h
  go_enter Tryz.func12, Tryz.ntmps12
  go_wp2
  go_loop [5, 1] (fun i m => ∃ k : Nat, k ≤ xss.length ∧ i = .int .i64 k ∧ m = .int .i64 (k0 + sumN ((lens xss).take k))) (fun i _ => xss.length - (intOf i).toNat)
  case atStart => exact ⟨0, by omega, rfl, by simp [sumN]⟩
  case round =>
    obtain ⟨k, hk, rfl, rfl⟩ := hrel
    have hsk := hle2.out k
    by_cases hlt : k < xss.length
    · obtain ⟨a, u, rfl, hc, hr⟩ := RdSS.at_ ha (k := k) (by simpa using hlt)
      have hget := seqII_get k0 (lens xss) k (by simpa using hlt)
      rw [List.getElem?_eq_getElem (by simpa using hlt)] at hget
      injection hget with hget
      rw [hget] at hr
      have hsum : Hid (sumN ((lens xss).take (k + 1)) = sumN ((lens xss).take k) + (lens xss)[k]'(by simpa using hlt)) := hd (by rw [List.take_succ_eq_append_getElem (by simpa using hlt), sumN_append]; simp [sumN])
      have hln : (lens xss)[k]'(by simpa using hlt) ≤ 1073741824 := Nat.le_trans (get_le_sumN (lens xss) k (by simpa using hlt)) hs
      have HR := hd hr
      clear hr hget
      generalize (lens xss)[k]'(by simpa using hlt) = m at *
      go_wp2_with fail
      refine (l_heldIntS m _ _ _ HR.out (by omega) (by omega) (by omega)).mono ?_
      rintro e w1 ⟨rfl, rfl⟩
      go_wp2
      go_round
      case rel => exact ⟨k + 1, by omega, by go_num, by rw [hsum.out]; go_num⟩
      case measure => simp [intOf]; omega
    · go_wp2
      go_ret
      obtain rfl : k = xss.length := by omega
      exact Ret.mk (by rw [List.take_of_length_le (by simp)]; rfl)
theorem u_held_IntSS (xss : List (List Int)) (v : Value) (k0 : Int) (w : World) (h : Mk_IntSS w v xss k0) (b : Bd_IntSS xss) (hk0 : 0 ≤ k0) (hk1 : k0 ≤ 1000000000) : Calls Tryz.prog 12 #[v, .int .i64 k0] w (RetX w (.int .i64 (k0 + len_IntSS xss))) :=
  (l_heldIntSS xss v k0 w h (by have := b.1; omega) (by have := b.2.2; omega) hk0 (by omega)).mono fun _ _ h => rx_r h
end Go.Proofs.YtbdcomkbpapcaaaGreat
