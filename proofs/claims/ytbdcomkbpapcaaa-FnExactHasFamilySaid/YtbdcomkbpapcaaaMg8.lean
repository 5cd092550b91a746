import Derived.Test.YtbdcomkbpapcaaaGfS
import Derived.Test.YtbdcomkbpapcaaaMg7
import Derived.Test.YtbdcomkbpapcaaaGfX
/-
  Greatest families: what is asked, in plain words. No condition.
-/
/-
  Greatest families: what is asked, HasFamily and GreatestFamily of the reference. Condition: sizes up to 2^20.
-/

namespace Go.Proofs.Ytbdcomkbpapcaaa
open Go.RowKit Seed
theorem allL_risA {cs : List (List Int)} {n q : Nat} {b : List Int} (h : b ∈ allL cs n q) : Ris (n : Int) b := allA_ris ((mem_insA _ _).1 h)
theorem allL_lenA {cs : List (List Int)} {n q : Nat} (h : n ≤ 6) : (allL cs n q).length ≤ 729 := by
  have h1 := insA_len (allA cs n q) _ (Nat.le_refl _)
  rw [List.take_length] at h1
  have := allA_len (cs := cs) (w := q) h
  unfold allL
  omega
def famF (f : Cnf) (x : Int) : List (List Int) := if askF f x then famL f.cs f.n.toNat x.toNat else []
/-- What a valid question tells. -/
theorem askF_inv {f : Cnf} {x : Int} (h : askF f x = true) : ∃ (n q : Nat) (cs : List (List Int)), f = ⟨(n : Int), cs⟩ ∧ x = (q : Int) ∧ n ≤ 6 ∧ q ≤ 6 ∧ cs.length ≤ 60 ∧ (∀ c ∈ cs, c.length ≤ 1000000 ∧ ∀ l ∈ c, -12 ≤ l ∧ l ≤ 12) ∧ famF f x = famL cs n q := by
  have h0 := h
  unfold askF smlB at h
  rw [Bool.and_eq_true, Bool.and_eq_true, decide_eq_true_iff, inB_iff] at h
  obtain ⟨⟨h1, h2⟩, h3, h4⟩ := h
  obtain ⟨g1, g2, g3, g4⟩ := good_inv h2
  obtain ⟨m, cs⟩ := f
  simp only at *
  refine ⟨m.toNat, x.toNat, cs, by rw [Int.toNat_of_nonneg g1], by omega, by omega, by omega, g3, fun c hc => ?_, by unfold famF; rw [h0]; rfl⟩
  obtain ⟨k1, k2, k3, k4⟩ := clause_inv (g4 c hc)
  exact ⟨by omega, fun l hl => by have := k3 l hl; omega⟩
theorem famF_no {f : Cnf} {x : Int} (h : askF f x = false) : famF f x = [] := by unfold famF; rw [h]; rfl
theorem shrL_sub {n q : Nat} : ∀ (N : Nat) (L : List (List Int)), L.length ≤ N → (shrL n q L).Sublist L
  | N, L, hN => by
    cases h : L.all (keepB n q L)
    · have hl := shr_less (n := n) (w := q) (L := L) (by rw [h]; decide)
      rw [shrL_no h]
      cases N with
      | zero => omega
      | succ N => exact (shrL_sub N _ (by omega)).trans List.filter_sublist
    · rw [shrL_yes h]
      exact List.Sublist.refl _
theorem famL_sub (cs : List (List Int)) (n q : Nat) : (famL cs n q).Sublist (allL cs n q) := shrL_sub _ _ (Nat.le_refl _)
theorem famL_len {cs : List (List Int)} {n q : Nat} (h : n ≤ 6) : (famL cs n q).length ≤ 729 := Nat.le_trans (famL_sub cs n q).length_le (allL_lenA h)
theorem famL_row {cs : List (List Int)} {n q : Nat} (h : n ≤ 6) : ∀ b ∈ famL cs n q, b.length ≤ 6 := fun b hb => by
  have := (allL_risA ((famL_sub cs n q).subset hb)).len
  omega
theorem shrL_Sub {n q : Nat} {A : List (List Int)} : ∀ (N : Nat) (L : List (List Int)), L.length ≤ N → Sub A L → Sub A (shrL n q L)
  | N, L, hN, hs => by
    cases h : L.all (keepB n q L)
    · have hl := shr_less (n := n) (w := q) (L := L) (by rw [h]; decide)
      rw [shrL_no h]
      cases N with
      | zero => omega
      | succ N => exact shrL_Sub N _ (by omega) hs.cut
    · rw [shrL_yes h]
      exact hs
theorem famL_Sub (cs : List (List Int)) (n q : Nat) : Sub (allL cs n q) (famL cs n q) := shrL_Sub _ _ (Nat.le_refl _) (sub_refl _)
theorem famL_tells {cs : List (List Int)} {n q : Nat} {p : Nat → Bool} (h : Tells n p (famL cs n q)) : (allL cs n q).filter (fun b => p (codeA b)) = famL cs n q := by
  conv => rhs; rw [← famL_Sub cs n q]
  exact List.filter_congr fun b hb => h b (allL_risA hb)
end Go.Proofs.Ytbdcomkbpapcaaa
namespace Go.Proofs.Ytbdcomkbpapcaaa
open Go.RowKit Seed
set_option maxRecDepth 100000 in
set_option maxHeartbeats 1600000 in
theorem s_HasFamily (f : Cnf) (v : Value) (x : Int) (w : World) (h : Rd_Cnf w v f) (b : Bd_Cnf f) (_ : I64_Cnf f) (_ : I64 x) :
    Calls Try.prog 25 #[v, .int .i64 x] w (RetX w (.tuple #[.bool (decide (0 < (famF f x).length)), .bool (askF f x)])) := by
  have HV := hd h
  have HB := hd b
  obtain ⟨A, c, rfl⟩ := h.form
  clear h b
  obtain ⟨p, hp⟩ : ∃ p, askF f x = p := ⟨_, rfl⟩
  have HAC := hd (rtx (s_l13Asked f x _ _ (HV.out.ext (Ext.new w (.cells #[.int .i64 f.n, .slice A f.cs.length c] 46))) HB.out) (hd hp))
  cases p
  · rw [famF_no hp, hp]
    clear hp
    go_enter Try.func25, Try.ntmps25
    go_wp2_with fail
    refine HAC.out.mono ?_
    rintro e w1 ⟨rfl, hx1⟩
    have X1 := hd ((Ext.new _ _).trans hx1)
    clear hx1
    go_wp2
    go_ret2
    exact RetX.mk rfl X1.out
  · obtain ⟨n, q, cs, rfl, rfl, hn, hq, hl, hc, hF⟩ := askF_inv hp
    rw [hF, hp]
    have HSC := hd (fun w' hx => s_l13Shrink n cs q _ w' hn hl (hd hc) hq (HV.out.ext hx) : ∀ w', Ext w w' → _)
    have hfl := famL_len (cs := cs) (q := q) hn
    simp only at *
    clear hp hc hF
    generalize famL cs n q = L at *
    by_cases hz : 0 < L.length
    · have hz' : (L.length : Int) > 0 := by omega
      rw [decide_eq_true hz]
      have hz2 : (0 : Int) < (L.length : Int) := by omega
      have hz3 : ¬ L.length = 0 := by omega
      go_enter Try.func25, Try.ntmps25
      go_wp2_with fail
      refine HAC.out.mono ?_
      rintro e w1 ⟨rfl, hx1⟩
      have X1 := hd ((Ext.new _ _).trans hx1)
      obtain ⟨k0, k1⟩ := blk2 (hx1.heap (heap_n1 w _))
      clear hx1
      go_wp2_with fail
      refine (HSC.out _ X1.out).mono ?_
      rintro e w2 ⟨Aa, na, ca, Ar, nr, cr, Ac, nc, cc, Al, nl, cl, rfl, hr, hx2⟩
      obtain ⟨A2, c2, e2, -⟩ := hr.form
      injection e2 with e2 e3 e4
      subst e2
      subst e3
      subst e4
      have X2 := hd (X1.out.trans hx2)
      have hfd : ∀ w : World, (Instr.field 75 (.agg #[.slice Aa na ca, .slice Ar nr cr, .slice Ac nc cc, .slice Al L.length cl]) 3).run Try.prog w = .ok (.slice Al L.length cl) w := fun _ => by kernel_rfl
      clear hr hx2
      go_wp2
      go_ret2
      exact RetX.mk rfl X2.out
    · have hz' : ¬ (L.length : Int) > 0 := by omega
      rw [decide_eq_false hz]
      obtain rfl : L = [] := List.eq_nil_of_length_eq_zero (by omega)
      clear hz hz'
      go_enter Try.func25, Try.ntmps25
      go_wp2_with fail
      refine HAC.out.mono ?_
      rintro e w1 ⟨rfl, hx1⟩
      have X1 := hd ((Ext.new _ _).trans hx1)
      obtain ⟨k0, k1⟩ := blk2 (hx1.heap (heap_n1 w _))
      clear hx1
      go_wp2_with fail
      refine (HSC.out _ X1.out).mono ?_
      rintro e w2 ⟨Aa, na, ca, Ar, nr, cr, Ac, nc, cc, Al, nl, cl, rfl, hr, hx2⟩
      obtain ⟨A2, c2, e2, -⟩ := hr.form
      injection e2 with e2 e3 e4
      subst e2
      subst e3
      subst e4
      have X2 := hd (X1.out.trans hx2)
      have hfd : ∀ w : World, (Instr.field 75 (.agg #[.slice Aa na ca, .slice Ar nr cr, .slice Ac nc cc, .slice Al 0 cl]) 3).run Try.prog w = .ok (.slice Al 0 cl) w := fun _ => by kernel_rfl
      clear hr hx2
      go_wp2
      go_ret2
      exact RetX.mk rfl X2.out
end Go.Proofs.Ytbdcomkbpapcaaa
