/-
  The family of clauses made a formula: (*family).cnf of a valid one. Conditions: sizes up to 2^20.
-/
import Derived.Test.YtgkifandgacncaaFamB
import Derived.Test.YtgkifandgacncaaGood
import Derived.Deep.RegionHeld3
namespace Go.Proofs.Ytgkifandgacncaa
open Go.RowKit
theorem ext_set {a w : World} (h : Ext a w) {g i : Nat} (hg : a.heap.size ≤ g) (u : Value) : Ext a (w.setCell ⟨g, i, none⟩ u) :=
  ext_appS (v := .slice (some ⟨g, 0, none⟩) 0 0) h (grown_set (grown_refl w (some g)) i u) (fun x hx => by obtain rfl : g = x := Option.some.inj hx; exact hg)
theorem keep2 {w W : World} {p q : Addr} {u v : Value} (h : Ext w W) (c0 : w.cell? p = some u) (c1 : w.cell? q = some v) : (W.cell? p = some u ∧ W.cell? q = some v) ∧ Ext w W := ⟨⟨h.cell c0, h.cell c1⟩, h⟩
theorem blk2_set {w : World} {b : Nat} {x y x' y' : Value} {e : TypeId} (h : w.heap[b]? = some (.cells #[x, y] e)) : ((w.setCell ⟨b, 0, none⟩ x').setCell ⟨b, 1, none⟩ y').heap[b]? = some (.cells #[x', y'] e) := blk2_set1 (blk2_set0 h)
set_option maxHeartbeats 1600000 in
theorem i_cnf (w0 w : World) (bx : Nat) (n : Int) (lo : Nat) (ov : Value) (xss : List (List Int)) (hF : FamB w0 w bx 52 n lo ov xss) (hgood : goodB ⟨n, xss⟩ = true) (hbd : Bd_Cnf ⟨n, xss⟩) :
    Calls Try.prog 28 #[.pointer (some ⟨bx, 0, none⟩)] w (fun e w' => e = .returned (.tuple #[.agg #[.int .i64 n, ov], .bool true]) ∧ Ext w w') := by
  have HF := hd hF
  have HG := hd hgood
  have HBD := hd hbd
  obtain ⟨c0, c1⟩ := blk2 hF.blk
  have hbl := blk_lt hF.blk
  obtain ⟨A, c, rfl, h1, h2⟩ := hF.own.form
  clear hF hgood hbd
  have X1 : Hid (Ext w (w.alloc (.cells #[.int .i64 0, .slice none 0 0] 29))) := hd (Ext.new _ _)
  go_enter Try.func28, Try.ntmps28
  go_wp2_with fail
  go_region_held3 (fun w' => (w'.cell? ⟨bx, 0, none⟩ = some (.int .i64 n) ∧ w'.cell? ⟨bx, 1, none⟩ = some (.slice A xss.length c)) ∧ Ext w w')
    ((refine keep2 ?_ c0 c1; repeat (first | assumption | exact Ext.refl _ | apply Ext.drew | refine Ext.alloc ?_ _ | refine ext_set ?_ (by simp) _)))
    (fail)
  go_wp2_with fail
  have X2 : Hid (Ext w (((w.alloc (.cells #[.int .i64 0, .slice none 0 0] 29)).alloc (.cells #[.int .i64 n, .slice A xss.length c] 29)).drew)) := hd (((X1.out.alloc _)).drew)
  refine (rtx (i_IsCnf ⟨n, xss⟩ _ _ ⟨_, rfl, HF.out.own.rd.ext X2.out⟩ HBD.out) HG).mono ?_
  rintro e w3 ⟨rfl, hx3⟩
  have X3 := hd (X2.out.trans hx3)
  have B0 := hd (hx3.heap (Ext.heap ((Ext.refl _).drew) (blk_old (o' := .cells #[.int .i64 n, .slice A xss.length c] 29) (blk_new (w := w) (.cells #[.int .i64 0, .slice none 0 0] 29) rfl))))
  have B1 := hd (hx3.heap (Ext.heap ((Ext.refl _).drew) (blk_new (w := w.alloc (.cells #[.int .i64 0, .slice none 0 0] 29)) (.cells #[.int .i64 n, .slice A xss.length c] 29) (b := w.heap.size + 1) (by simp))))
  obtain ⟨k0, k1⟩ := blk2 B0.out
  obtain ⟨k2, k3⟩ := blk2f B0.out
  have k4 := blk_lt B0.out
  obtain ⟨m0, m1⟩ := blk2 B1.out
  have HC := hd (blk2_set (x' := .int .i64 n) (y' := .slice A xss.length c) B0.out)
  clear c0 c1 hx3
  go_wp2
  obtain ⟨p0, p1⟩ := blk2 HC.out
  exact bodyPost_ret (v := .tuple #[.agg #[.int .i64 n, .slice A xss.length c], .bool true]) (by simp [results, Try.results28, go_sem, p0, p1]) rfl ⟨rfl, ext_set (ext_set X3.out (Nat.le_refl _) _) (Nat.le_refl _) _⟩
theorem ownSS_nil (w : World) (lo hi : Nat) (eS eI : TypeId) : OwnSS w lo hi eS eI (.slice none 0 0) [] :=
  ⟨[], ⟨rfl, .inl ⟨rfl, rfl⟩⟩, (fun g hg => by cases hg), rfl, (fun i u xs h => by simp at h), (fun i j u u' g _ h => by simp at h)⟩
end Go.Proofs.Ytgkifandgacncaa
