/-
  SeededCnf: the reference's side. Conditions: none but the machine's integers.
-/
import Derived.Test.YtgkifandgacncaaSeedL
import Derived.Test.YtgkifandgacncaaFamZ
import Derived.Test.YtgkifandgacncaaRetN
import Derived.Test.YtgkifandgacncaaSide
namespace Go.Proofs.Ytgkifandgacncaa
open Go.RowKit Seed
def seedB (n c d s : Int) : Bool := inB n 1 12 && (inB c 0 60 && (inB d 1 n && inB s 0 9999))
noncomputable def seedV (n c d s : Int) : Cnf := if seedB n c d s then ⟨n, csS n.toNat d.toNat s.toNat c.toNat⟩ else ⟨0, []⟩
theorem sumN_le12 {xss : List (List Int)} (h : ∀ c ∈ xss, c.length ≤ 12) : sumN (lens xss) ≤ 12 * xss.length := by
  induction xss with
  | nil => exact Nat.le_refl _
  | cons x r ih =>
    have h1 := h x (by simp)
    have h2 := ih fun c hc => h c (by simp [hc])
    show x.length + sumN (lens r) ≤ _
    simp only [List.length_cons]
    omega
theorem csS_bd {n w s i : Nat} (h1 : 1 ≤ n) (h : n ≤ 12) (hi : i ≤ 60) : Bd_IntSS (csS n w s i) := by
  have hl : ∀ c ∈ csS n w s i, c.length ≤ 12 := fun c hc => by have := (clause_inv (csS_mem h1 h c hc)).2.2.2; omega
  refine ⟨by rw [csS_len]; omega, fun c hc => by have := hl c hc; omega, ?_⟩
  have := sumN_le12 hl
  rw [csS_len] at this
  omega
theorem seedV_bd (n c d s : Int) : Bd_Cnf (seedV n c d s) := by
  unfold seedV
  split
  · rename_i h
    unfold seedB at h
    simp only [Bool.and_eq_true, inB_iff] at h
    exact csS_bd (by omega) (by omega) (by omega)
  · exact ⟨by simp, (fun x hx => by simp at hx), by decide⟩
theorem s_l4New (n : Int) (w : World) : Calls Try.prog 44 #[.int .i64 n] w (fun e w' => ∃ b, e = .returned (.agg #[.int .i64 n, .slice (some ⟨b, 0, none⟩) 0 0]) ∧ w.heap.size ≤ b ∧ w'.heap[b]? = some (.cells #[] 23 (0, 0)) ∧ Ext w w') := by
  have X1 := hd ((Ext.new w (.cells #[.int .i64 n, .slice (some ⟨w.heap.size + 1, 0, none⟩) 0 0] 29)).alloc (.cells #[] 23))
  have B1 := hd (blk_new (w := w.alloc (.cells #[.int .i64 n, .slice (some ⟨w.heap.size + 1, 0, none⟩) 0 0] 29)) (.cells #[] 23) (b := w.heap.size + 1) (by simp))
  go_enter Try.func44, Try.ntmps44
  go_wp2
  exact bodyPost_ret (v := .agg #[.int .i64 n, .slice (some ⟨w.heap.size + 1, 0, none⟩) 0 0]) (by simp [results, Try.results44, go_sem]) rfl ⟨w.heap.size + 1, rfl, by omega, B1.out, X1.out⟩
theorem s_l4Give (f : Cnf) (ov : Value) (w : World) (h : RdSS w ov f.cs) (hg : Hid (goodB f = true)) (b : Hid (Bd_Cnf f)) : Calls Try.prog 47 #[.agg #[.int .i64 f.n, ov]] w (fun e w' => e = .returned (.tuple #[.agg #[.int .i64 f.n, ov], .bool true]) ∧ Ext w w') := by
  obtain ⟨n, cs⟩ := f
  dsimp only at *
  obtain ⟨A, c, rfl, h1, h2, ha⟩ := h.form
  have X1 := hd ((Ext.new w (.cells #[.int .i64 n, .slice A cs.length c] 29)).alloc (.cells #[.int .i64 0, .slice none 0 0] 29))
  have HR := hd (h.ext X1.out)
  clear h
  have B0 := hd (blk_old (o' := .cells #[.int .i64 0, .slice none 0 0] 29) (blk_new (w := w) (.cells #[.int .i64 n, .slice A cs.length c] 29) rfl))
  have B1 := hd (blk_new (w := w.alloc (.cells #[.int .i64 n, .slice A cs.length c] 29)) (.cells #[.int .i64 0, .slice none 0 0] 29) (b := w.heap.size + 1) (by simp))
  obtain ⟨k0, k1⟩ := blk2 B0.out
  go_enter Try.func47, Try.ntmps47
  go_wp2_with fail
  refine (rtx (s_l2Good ⟨n, cs⟩ _ _ ⟨_, rfl, HR.out⟩ b.out) hg).mono ?_
  rintro e w3 ⟨rfl, hx3⟩
  have X3 := hd (X1.out.trans hx3)
  replace B0 := hd (hx3.heap B0.out)
  replace B1 := hd (hx3.heap B1.out)
  clear k0 k1
  obtain ⟨k0, k1⟩ := blk2 B0.out
  obtain ⟨m0, m1⟩ := blk2 B1.out
  obtain ⟨k2, k3⟩ := blk2f B1.out
  have k4 := blk_lt B1.out
  have HC := hd (blk2_set (x' := .int .i64 n) (y' := .slice A cs.length c) B1.out)
  have X4 := hd (ext_set (i := 1) (ext_set (i := 0) X3.out (g := w.heap.size + 1) (by omega) (.int .i64 n)) (g := w.heap.size + 1) (by omega) (.slice A cs.length c))
  clear hx3
  go_wp2
  obtain ⟨p0, p1⟩ := blk2 HC.out
  exact bodyPost_ret (v := .tuple #[.agg #[.int .i64 n, .slice A cs.length c], .bool true]) (by simp [results, Try.results47, go_sem, p0, p1]) rfl ⟨rfl, X4.out⟩
end Go.Proofs.Ytgkifandgacncaa
