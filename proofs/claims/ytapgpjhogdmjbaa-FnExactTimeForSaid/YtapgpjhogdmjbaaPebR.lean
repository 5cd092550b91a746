/-
  Pebbling, the program's numbers, and both sides of the least time. Condition: a valid graph of which a shortest pebbling has at most 300 moves.
-/
import Derived.Test.YtapgpjhogdmjbaaPebM
import Derived.Test.YtapgpjhogdmjbaaPebO
namespace Go.Proofs.Ytapgpjhogdmjbaa
open Go.RowKit Peb
/-- A shortest pebbling has at most 300 moves, whatever the size. -/
def ShortD (ds : List (List Int)) (rev : Bool) : Prop := ∀ s d, s ≤ 10 → Dst (eP ds ds.length rev s) (dP ds.length rev s) (2 ^ ds.length) d 0 → d ≤ 300
theorem short_irr {ds : List (List Int)} (h : goodD ds = true) : ShortD ds false := fun _ _ hs hd => by
  obtain ⟨h1, h10, hdag⟩ := goodD_dag h
  exact irr_bound h10 h1 hs hdag rfl hd
theorem fin_in {ds : List (List Int)} {rev : Bool} {s : Nat} {F : List Int} (h : FinD (eP ds ds.length rev s) (dP ds.length rev s) (2 ^ ds.length) F) (hS : ShortD ds rev) (hs : s ≤ 10) : inB (fa F 0) 0 300 = !decide (fa F 0 < 0) := by
  have h0 : 0 < 2 ^ ds.length := Nat.pow_pos (by decide)
  by_cases hr : Rch ds rev s
  · obtain ⟨d, hd⟩ := hr
    have e := h.yes 0 d h0 hd
    have := hS s d hs hd
    rw [decide_eq_false (by omega : ¬ fa F 0 < 0)]
    exact inB_iff.2 (by omega)
  · have e := h.no 0 h0 fun d hd => hr ⟨d, hd⟩
    rw [e]; decide
set_option maxRecDepth 100000 in
set_option maxHeartbeats 1600000 in
theorem i_leastSize (ds : List (List Int)) (L : Nat) (rev : Bool) (v : Value) (w : World) (h : Rd_Dag w v ds) (hg : goodD ds = true) (hb : Bd_Dag ds) (hS : ShortD ds rev) (hL1 : 1 ≤ L) (hL : L ≤ 10) (hy : Rch ds rev L) (hn : ∀ j, 1 ≤ j → j < L → ¬ Rch ds rev j) :
    Calls Try.prog 32 #[v, .bool rev] w (RetX w (.int .i64 (L : Int))) := by
  have HV := hd h
  obtain ⟨vc, rfl, hC⟩ := h
  obtain ⟨A, c, rfl, -, -, -⟩ := hC.form
  have HFAR := hd (fun w' (hx : Ext w w') s => i_left ds s rev _ w' (HV.out.ext hx) hg hb)
  have HY := hd hy
  have HN := hd hn
  have HS := hd hS
  have HM0 : Hid (0 < 2 ^ ds.length) := hd (Nat.pow_pos (by decide))
  clear hC hy hn hb hS
  go_enter Try.func32, Try.ntmps32
  go_wp2
  go_loopw [5] (fun sv wr => ∃ s : Nat, 1 ≤ s ∧ s ≤ L ∧ sv = .int .i64 (s : Int) ∧ Ext (w.alloc (.cells #[.slice A ds.length c] 28)) wr) (fun sv _ => L + 1 - (intOf sv).toNat)
  case atStart => exact ⟨1, by omega, by omega, by simp, Ext.refl _⟩
  case round =>
    obtain ⟨s, hs1, hsL, rfl, hx⟩ := hrel
    have c0 := cell_ofD (hx.heap (heap_n1 w _))
    have HX := hd hx
    have HX0 := hd ((Ext.new w (.cells #[.slice A ds.length c] 28)).trans hx)
    clear hx
    go_wp2_with fail
    refine (HFAR.out wr HX0.out s).mono ?_
    rintro e w5 ⟨g, F, rfl, hO, hF, hx5⟩
    have hc := far_zero hO hF.fl HM0.out
    have hfn := fin_neg hF
    have HIN := hd (fin_in hF HS.out (by omega))
    have HX5 := hd hx5
    clear hO hF hx5
    generalize fa F 0 = f0 at *
    have hM0 := HM0.out
    generalize 2 ^ ds.length = M at *
    by_cases hneg : f0 < 0
    · have HI2 := hd (HIN.out.trans (by rw [decide_eq_true hneg]; rfl : _ = false))
      have HNR := hd (hfn.1 hneg)
      have hsl : s < L := by
        rcases Nat.lt_or_ge s L with h | h
        · exact h
        · obtain rfl : s = L := by omega
          exact absurd HY.out HNR.out
      clear hfn HIN
      go_wp2_with fail
      refine (rt (i_within _ _ _ _) HI2).mono ?_
      rintro e w1 ⟨rfl, rfl⟩
      go_wp2
      go_roundw
      case rel => exact ⟨s + 1, by omega, by omega, by go_num, HX.out.trans HX5.out⟩
      case measure => simp [intOf]; omega
    · have HI2 := hd (HIN.out.trans (by rw [decide_eq_false hneg]; rfl : _ = true))
      have hsl : ¬ s < L := fun h => hneg (hfn.2 (HN.out s hs1 h))
      obtain rfl : s = L := by omega
      clear hfn hsl HIN
      go_wp2_with fail
      refine (rt (i_within _ _ _ _) HI2).mono ?_
      rintro e w1 ⟨rfl, rfl⟩
      go_wp2
      go_ret
      exact RetX.mk rfl (HX0.out.trans HX5.out)
set_option maxHeartbeats 800000 in
theorem i_PebblingNumber (ds : List (List Int)) (L : Nat) (v : Value) (w : World) (h : Rd_Dag w v ds) (hb : Bd_Dag ds) (hL : goodD ds = true → ShortD ds false ∧ 1 ≤ L ∧ L ≤ 10 ∧ Rch ds false L ∧ ∀ j, 1 ≤ j → j < L → ¬ Rch ds false j) :
    Calls Try.prog 13 #[v] w (RetX w (.tuple #[.int .i64 (if goodD ds then (L : Int) else 0), .bool (goodD ds)])) := by
  have HV := hd h
  obtain ⟨vc, rfl, hC⟩ := h
  obtain ⟨A, c, rfl, -, -, -⟩ := hC.form
  have XB := hd (Ext.new w (.cells #[.slice A ds.length c] 28))
  have HG := hd (i_IsDag ds _ _ (HV.out.ext XB.out) hb)
  have HLE := hd (fun w' (hx : Ext w w') hg => i_leastSize ds L false _ w' (HV.out.ext hx) hg hb (hL hg).1 (hL hg).2.1 (hL hg).2.2.1 (hL hg).2.2.2.1 (hL hg).2.2.2.2)
  clear hC hb hL
  cases hq : goodD ds
  · rw [hq] at HG
    clear hq HLE
    go_enter Try.func13, Try.ntmps13
    go_wp2_with fail
    refine HG.out.mono ?_
    rintro e w1 ⟨rfl, hx1⟩
    have X1 := hd (XB.out.trans hx1)
    clear hx1
    go_wp2
    go_ret2
    exact RetX.mk rfl X1.out
  · rw [hq] at HG
    have HLE2 := hd (fun w' hx => HLE.out w' hx hq)
    clear hq HLE
    have B0 : Hid (∀ w' : World, Ext (w.alloc (.cells #[.slice A ds.length c] 28)) w' → w'.cell? ⟨w.heap.size, 0, none⟩ = some (.slice A ds.length c)) := hd fun w' hx => cell_ofD (hx.heap (heap_n1 w _))
    go_enter Try.func13, Try.ntmps13
    go_wp2_with fail
    refine HG.out.mono ?_
    rintro e w1 ⟨rfl, hx1⟩
    have c0 := B0.out _ hx1
    have X1 := hd (XB.out.trans hx1)
    clear hx1
    go_wp2_with fail
    refine (HLE2.out w1 X1.out).mono ?_
    rintro e w2 ⟨rfl, hx2⟩
    have X2 := hd (X1.out.trans hx2)
    clear hx2
    go_wp2
    go_ret2
    exact RetX.mk rfl X2.out
open Classical in
/-- The least size. -/
noncomputable def leastP (ds : List (List Int)) (rev : Bool) : Nat := if h : ∃ L, 1 ≤ L ∧ L ≤ 10 ∧ Rch ds rev L ∧ ∀ j, 1 ≤ j → j < L → ¬ Rch ds rev j then Classical.choose h else 0
theorem leastP_spec {ds : List (List Int)} {rev : Bool} (h : ∃ L, 1 ≤ L ∧ L ≤ 10 ∧ Rch ds rev L ∧ ∀ j, 1 ≤ j → j < L → ¬ Rch ds rev j) : 1 ≤ leastP ds rev ∧ leastP ds rev ≤ 10 ∧ Rch ds rev (leastP ds rev) ∧ ∀ j, 1 ≤ j → j < leastP ds rev → ¬ Rch ds rev j := by
  unfold leastP
  rw [dif_pos h]
  exact Classical.choose_spec h
noncomputable def pebN (ds : List (List Int)) (rev : Bool) : Int := if goodD ds then (leastP ds rev : Int) else 0
theorem s_PebblingNumberL (ds : List (List Int)) (v : Value) (w : World) (h : Rd_Dag w v ds) (hb : Bd_Dag ds) (_ : I64_Dag ds) :
    Calls Try.prog 12 #[v] w (RetX w (.tuple #[.int .i64 (pebN ds false), .bool (goodD ds)])) :=
  s_PebblingNumber ds (leastP ds false) v w h hb fun hg => leastP_spec (irr_least hg)
theorem i_PebblingNumberL (ds : List (List Int)) (v : Value) (w : World) (h : Rd_Dag w v ds) (hb : Bd_Dag ds) (_ : I64_Dag ds) :
    Calls Try.prog 13 #[v] w (RetX w (.tuple #[.int .i64 (pebN ds false), .bool (goodD ds)])) :=
  i_PebblingNumber ds (leastP ds false) v w h hb fun hg => ⟨short_irr hg, leastP_spec (irr_least hg)⟩
end Go.Proofs.Ytapgpjhogdmjbaa
