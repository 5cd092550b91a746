import Derived.Test.YtbdcomkbpapcaaaLaw
import Derived.Test.YtbdcomkbpapcaaaMg1
import Derived.Test.YtbdcomkbpapcaaaMg2
import Derived.Test.YtbdcomkbpapcaaaMg8
import Derived.Test.YtbdcomkbpapcaaaGfE
import Derived.Test.YtbdcomkbpapcaaaRows
import Derived.ProofKit
import Derived.JoinedOf
/-
  FnExactHasFamily: the walk: for all arguments the law returns true. No condition.
-/
/-
  Facts of the program's head that every statement of this seat asks for. No condition.
-/

namespace Go.Proofs.Ytbdcomkbpapcaaa
open Go.RowKit
set_option maxRecDepth 100000 in
set_option maxHeartbeats 3200000 in
theorem w_FnExactHasFamily (w : World) (f : Cnf) (vf : Value) (hf : Rd_Cnf w vf f) (hif : I64_Cnf f) (x : Int) (hx : I64 x) :
    Calls Try.prog 7 #[vf, .int .i64 x] w (RetT w) := by
  have HIf := hd hif; clear hif
  have HAf := hd hf
  obtain ⟨Af, cf, rfl⟩ := hf.form
  clear hf
  have HIx := hd hx; clear hx
  have hbz0 := sz_Cnf_bd f 1048576 (by omega)
  generalize hz : sz_Cnf f 1048576 = z0 at *
  have Hz0 := hd hz; clear hz
  have X := hd (Ext.refl w)
  replace X := hd (X.out.alloc (.cells #[.int .i64 f.n, .slice Af f.cs.length cf] 42))
  have B1 := hd (blk_new (w := w) (.cells #[.int .i64 f.n, .slice Af f.cs.length cf] 42) rfl)
  have sB1 : w.heap.size < (w.alloc (.cells #[.int .i64 f.n, .slice Af f.cs.length cf] 42)).heap.size := by simp
  go_enter Try.func7, Try.ntmps7
  obtain ⟨kB1_0, kB1_1⟩ := blk2 B1.out
  go_wp2_with fail
  refine (u_sz_Cnf f _ _ _ (HAf.out.ext X.out) (by omega) (by omega)).mono ?_
  rintro e w2 ⟨rfl, hx⟩
  rw [Hz0.out]
  have szw2 := hx.size
  replace X := hd (X.out.trans hx)
  replace B1 := hd (hx.heap B1.out)
  clear hx kB1_0 kB1_1
  by_cases hneg0 : z0 < 0
  · go_wp2
    go_ret
    exact RetT.mk rfl X.out
  ·
    have bf : Hid (Bd_Cnf f) := hd (sz_Cnf_ok (by rw [Hz0.out]; exact hneg0) (by omega))
    obtain ⟨kB1_0, kB1_1⟩ := blk2 B1.out
    go_wp2_with fail
    refine (u_to_Cnf f _ _ (HAf.out.ext X.out) bf.out).mono ?_
    rintro e w3 ⟨u, rfl, hu, hx⟩
    have szw3 := hx.size
    replace X := hd (X.out.trans hx)
    replace B1 := hd (hx.heap B1.out)
    obtain ⟨At4, ct4, rfl, O4⟩ := hu.form
    clear hx hu kB1_0 kB1_1
    go_wp2_with fail
    refine (s_HasFamily f _ x _ O4.out.rd bf.out HIf.out HIx.out).mono ?_
    rintro e w6 ⟨rfl, hx⟩
    have szw6 := hx.size
    replace X := hd (X.out.trans hx)
    replace B1 := hd (hx.heap B1.out)
    replace O4 := hd (O4.out.ext hx)
    clear hx
    clear O4
    obtain ⟨kB1_0, kB1_1⟩ := blk2 B1.out
    go_wp2_with fail
    refine (u_to_Cnf f _ _ (HAf.out.ext X.out) bf.out).mono ?_
    rintro e w7 ⟨u, rfl, hu, hx⟩
    have szw7 := hx.size
    replace X := hd (X.out.trans hx)
    replace B1 := hd (hx.heap B1.out)
    obtain ⟨At8, ct8, rfl, O8⟩ := hu.form
    clear hx hu kB1_0 kB1_1
    replace X := hd (X.out.alloc (.cells #[.int .i64 f.n, .slice At8 f.cs.length ct8] 46))
    replace B1 := hd (blk_old (o' := .cells #[.int .i64 f.n, .slice At8 f.cs.length ct8] 46) B1.out)
    replace O8 := hd (O8.out.ext (Ext.new w7 (.cells #[.int .i64 f.n, .slice At8 f.cs.length ct8] 46)))
    have B9 := hd (blk_new (w := w7) (.cells #[.int .i64 f.n, .slice At8 f.cs.length ct8] 46) rfl)
    have sB9 : w7.heap.size < (w7.alloc (.cells #[.int .i64 f.n, .slice At8 f.cs.length ct8] 46)).heap.size := by simp
    obtain ⟨kB9_0, kB9_1⟩ := blk2 B9.out
    go_wp2_with fail
    refine (i_HasFamily f _ x _ O8.out.rd bf.out HIf.out HIx.out).mono ?_
    rintro e w11 ⟨rfl, hx⟩
    have szw11 := hx.size
    replace X := hd (X.out.trans hx)
    replace B1 := hd (hx.heap B1.out)
    replace O8 := hd (O8.out.ext hx)
    replace B9 := hd (hx.heap B9.out)
    clear hx kB9_0 kB9_1
    obtain ⟨kB9_0, kB9_1⟩ := blk2 B9.out
    obtain ⟨kB1_0, kB1_1⟩ := blk2 B1.out
    go_wp2_with fail
    go_region_held3 (fun w' => (w'.cell? ⟨w7.heap.size, 0, none⟩ = some (.int .i64 f.n) ∧ w'.cell? ⟨w7.heap.size, 1, none⟩ = some (.slice At8 f.cs.length ct8) ∧ w'.cell? ⟨w.heap.size, 0, none⟩ = some (.int .i64 f.n) ∧ w'.cell? ⟨w.heap.size, 1, none⟩ = some (.slice Af f.cs.length cf)) ∧ Ext w11 w')
      ((refine ⟨⟨Ext.cell ?_ kB9_0, Ext.cell ?_ kB9_1, Ext.cell ?_ kB1_0, Ext.cell ?_ kB1_1⟩, ?_⟩ <;> (first | assumption | exact Ext.refl _ | exact (Ext.refl _).drew)))
      (first
        | (go_at_call 26; refine (u_to_Cnf f _ _ (HAf.out.ext (X.out.trans ((Ext.refl _).drew))) bf.out).mono ?_; rintro e wt ⟨ut, rfl, hut, hxt⟩; have Yt : Ext w11 wt := ((Ext.refl _).drew).trans hxt)
        | (go_at_call 28; refine (u_eq_Cnf f _ _ _ (O8.out.ext Yt).rd hut.rd bf.out).mono ?_; rintro e w13 ⟨rfl, hxe⟩; have hx : Ext w11 w13 := Yt.trans hxe))
    have szw13 := hx.size
    replace X := hd (X.out.trans hx)
    replace B1 := hd (hx.heap B1.out)
    replace O8 := hd (O8.out.ext hx)
    replace B9 := hd (hx.heap B9.out)
    clear hx hxe Yt hxt hut kB9_0 kB9_1 kB1_0 kB1_1
    go_wp2
    go_ret
    exact RetT.mk rfl X.out
end Go.Proofs.Ytbdcomkbpapcaaa
namespace Go.Proofs.Ytbdcomkbpapcaaa
open Go.RowKit
theorem toList_of {s : String} {l : List Char} (h : s = String.ofList l) : s.toList = l := by rw [h, String.toList_ofList]
theorem ws_app : ∀ (a r : List Char), (∀ c ∈ a, c ≠ Char.ofNat 32) → wordsSigns (a ++ Char.ofNat 32 :: r) = a :: wordsSigns r
  | [], r, _ => rfl
  | c :: a, r, h => by
    have ih := ws_app a r fun x hx => h x (by simp [hx])
    have hc : c ≠ Char.ofNat 32 := h c (by simp)
    rw [List.cons_append, wordsSigns, ih]
    exact hc
theorem ws_cut (l : List Char) (n : Nat) (h : ((l.take n).all (fun c => c != Char.ofNat 32) && ((l.drop n).head? == some (Char.ofNat 32))) = true) : wordsSigns l = l.take n :: wordsSigns (l.drop (n + 1)) := by
  rw [Bool.and_eq_true, List.all_eq_true, beq_iff_eq] at h
  have e : l = l.take n ++ Char.ofNat 32 :: l.drop (n + 1) := by
    conv => lhs; rw [← List.take_append_drop n l]
    congr 1
    cases hd : l.drop n with
    | nil => rw [hd] at h; cases h.2
    | cons x r =>
      rw [hd] at h
      have hx : x = Char.ofNat 32 := by simpa using h.2
      have : l.drop (n + 1) = r := by rw [← List.drop_drop, hd]; rfl
      rw [this, hx]
  conv => lhs; rw [e]
  exact ws_app _ _ fun c hc => by simpa using h.1 c hc
set_option maxRecDepth 1000000 in
theorem words_of : ∃ L : List Char, wordsSigns Try.checked.prog.initOrder.toList = L.take 7 :: (L.drop 8).take 64 :: ((L.drop 8).drop 65).take 3 :: wordsSigns (((L.drop 8).drop 65).drop 4) ∧ L.take 7 = "harness".toList ∧ isSumSigns ((L.drop 8).take 64) = true ∧ ((L.drop 8).drop 65).take 3 = "cut".toList := by
  have e := toList_of (s := Try.checked.prog.initOrder) rfl
  refine ⟨_, by rw [e, ws_cut _ 7 (by decide +kernel), ws_cut _ 64 (by decide +kernel), ws_cut _ 3 (by decide +kernel)], by decide +kernel, by decide +kernel, by decide +kernel⟩
theorem behind_h {s : List Char} {r : List (List Char)} (h : isSumSigns s = true) : behindMainWord ("harness".toList :: s :: r) = r := by
  show (if (("harness".toList == "harness".toList || "harness".toList == "ownmain".toList) && isSumSigns s) = true then r else _) = r
  rw [if_pos (by rw [h]; rfl)]
theorem behind_of : ∃ r, behindMainWord (wordsSigns Try.checked.prog.initOrder.toList) = "cut".toList :: r := by
  obtain ⟨L, h1, h2, h3, h4⟩ := words_of
  exact ⟨_, by rw [h1, h2, h4, behind_h h3]⟩
theorem make_cut (P : Program) (r : List (List Char)) (h : behindMainWord (wordsSigns P.initOrder.toList) = "cut".toList :: r) : P.make = some .cut := by
  unfold Program.make
  rw [h]
  generalize Program.headLifts _ = hl
  change _ = some _
  kernel_rfl
theorem lifts_cut (P : Program) (r : List (List Char)) (h : behindMainWord (wordsSigns P.initOrder.toList) = "cut".toList :: r) : P.liftsFinal = false := by
  unfold Program.liftsFinal Program.headLifts
  rw [h]
  change _ = false
  kernel_rfl
theorem strip_of (r : List (List Char)) : stripLifts liftWords ("cut".toList :: r) = ([], "cut".toList :: r) := by kernel_rfl
theorem enter_cut (P : Program) (r : List (List Char)) (h : behindMainWord (wordsSigns P.initOrder.toList) = "cut".toList :: r) (a1 : P.laysLater = false) (a2 : P.bearsReflect = false) (a3 : P.doorFits [] = true) : P.mayEnter = true := by
  unfold Program.mayEnter
  rw [h]
  simp only [strip_of, a1, a2, a3]
  change _ = true
  kernel_rfl
theorem may_enter : Try.checked.prog.mayEnter = true := by
  obtain ⟨r, h⟩ := behind_of
  exact enter_cut _ r h (by kernel_rfl) (by kernel_rfl) (by kernel_rfl)
theorem lifts_final : Try.checked.prog.liftsFinal = false := by
  obtain ⟨r, h⟩ := behind_of
  exact lifts_cut _ r h
theorem make_of : Try.checked.prog.make = some .cut := by
  obtain ⟨r, h⟩ := behind_of
  exact make_cut _ r h
end Go.Proofs.Ytbdcomkbpapcaaa
