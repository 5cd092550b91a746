/-
  Pebbling, the reference's numbers. Condition: a valid graph.
-/
import Derived.Test.YtapgpjhogdmjbaaPebU
namespace Go.Proofs.Ytapgpjhogdmjbaa
open Go.RowKit Peb
/-- With s pebbles it can be done. -/
def Rch (ds : List (List Int)) (rev : Bool) (s : Nat) : Prop := ∃ d, Dst (eP ds ds.length rev s) (dP ds.length rev s) (2 ^ ds.length) d 0
theorem far_zero {w : World} {base g M : Nat} {e : TypeId} {F : List Int} (h : OwnI w base e (.slice (some ⟨g, 0, none⟩) M M) F) (hl : F.length = M) (hM : 0 < M) : w.cell? ⟨g, 0, none⟩ = some (.int .i64 (fa F 0)) := by
  have hl0 : 0 < F.length := by omega
  obtain ⟨a, e, hc⟩ := RdI.at_ (hd h.rd) hl0
  injection e with e
  subst e
  have e2 : fa F 0 = F[0] := by simp [fa, List.getD_eq_getElem?_getD, hl0]
  rw [e2]
  rw [Addr.add_zero'] at hc; exact hc
theorem fin_neg {ds : List (List Int)} {rev : Bool} {s : Nat} {F : List Int} (h : FinD (eP ds ds.length rev s) (dP ds.length rev s) (2 ^ ds.length) F) : (fa F 0 < 0 ↔ ¬ Rch ds rev s) := by
  have h0 : 0 < 2 ^ ds.length := Nat.pow_pos (by decide)
  constructor
  · rintro hl ⟨d, hd⟩
    have := h.yes 0 d h0 hd
    omega
  · intro hn
    have := h.no 0 h0 fun d hd => hn ⟨d, hd⟩
    omega
set_option maxRecDepth 100000 in
set_option maxHeartbeats 1600000 in
theorem s_l14Least (ds : List (List Int)) (L : Nat) (rev : Bool) (v : Value) (w : World) (h : Rd_Dag w v ds) (hg : goodD ds = true) (hb : Bd_Dag ds) (hL1 : 1 ≤ L) (hL : L ≤ 10) (hy : Rch ds rev L) (hn : ∀ j, 1 ≤ j → j < L → ¬ Rch ds rev j) :
    Calls Try.prog 31 #[v, .bool rev] w (RetX w (.int .i64 (L : Int))) := by
  have HV := hd h
  obtain ⟨vc, rfl, hC⟩ := h
  obtain ⟨A, c, rfl, -, -, -⟩ := hC.form
  have HFAR := hd (fun w' (hx : Ext w w') s (hs : s ≤ 10) => s_l14Far ds s rev _ w' (HV.out.ext hx) hg hb hs)
  have HY := hd hy
  have HN := hd hn
  have HM0 : Hid (0 < 2 ^ ds.length) := hd (Nat.pow_pos (by decide))
  clear hC hy hn hb
  go_enter Try.func31, Try.ntmps31
  go_wp2
  go_loopw [5] (fun sv wr => ∃ s : Nat, 1 ≤ s ∧ s ≤ L ∧ sv = .int .i64 (s : Int) ∧ Ext (w.alloc (.cells #[.slice A ds.length c] 28)) wr) (fun sv _ => L + 1 - (intOf sv).toNat)
  case atStart => exact ⟨1, by omega, by omega, by simp, Ext.refl _⟩
  case round =>
    obtain ⟨s, hs1, hsL, rfl, hx⟩ := hrel
    have c0 := cell_ofD (hx.heap (heap_n1 w _))
    have HX := hd hx
    have HX0 := hd ((Ext.new w (.cells #[.slice A ds.length c] 28)).trans hx)
    clear hx
    go_wp2_with fail
    refine (HFAR.out wr HX0.out s (by omega)).mono ?_
    rintro e w5 ⟨g, F, rfl, hO, hF, hx5⟩
    have hc := far_zero hO hF.fl HM0.out
    have hfn := fin_neg hF
    have HX5 := hd hx5
    clear hO hF hx5
    generalize fa F 0 = f0 at *
    have hM0 := HM0.out
    generalize 2 ^ ds.length = M at *
    by_cases hneg : f0 < 0
    · have HNR := hd (hfn.1 hneg)
      have hsl : s < L := by
        rcases Nat.lt_or_ge s L with h | h
        · exact h
        · obtain rfl : s = L := by omega
          exact absurd HY.out HNR.out
      clear hfn
      go_wp2
      go_roundw
      case rel => exact ⟨s + 1, by omega, by omega, by go_num, HX.out.trans HX5.out⟩
      case measure => simp [intOf]; omega
    · have hsl : ¬ s < L := fun h => hneg (hfn.2 (HN.out s hs1 h))
      obtain rfl : s = L := by omega
      clear hfn hsl
      go_wp2
      go_ret
      exact RetX.mk rfl (HX0.out.trans HX5.out)
theorem irr_least {ds : List (List Int)} (h : goodD ds = true) : ∃ L, 1 ≤ L ∧ L ≤ 10 ∧ Rch ds false L ∧ ∀ j, 1 ≤ j → j < L → ¬ Rch ds false j := by
  obtain ⟨h1, h10, hdag⟩ := goodD_dag h
  have hsome : Rch ds false ds.length := irr_some h10 h1 hdag rfl
  have key : ∀ m, m ≤ ds.length → (∃ L, 1 ≤ L ∧ L ≤ m ∧ Rch ds false L ∧ ∀ j, 1 ≤ j → j < L → ¬ Rch ds false j) ∨ ∀ j, 1 ≤ j → j ≤ m → ¬ Rch ds false j := by
    intro m
    induction m with
    | zero => intro _; exact .inr fun j h1 h2 => by omega
    | succ m ih =>
      intro hm
      rcases ih (by omega) with ⟨L, a, b, c, d⟩ | hno
      · exact .inl ⟨L, a, by omega, c, d⟩
      · by_cases hr : Rch ds false (m + 1)
        · exact .inl ⟨m + 1, by omega, Nat.le_refl _, hr, fun j a b => hno j a (by omega)⟩
        · refine .inr fun j a b => ?_
          by_cases e : j = m + 1
          · subst e; exact hr
          · exact hno j a (by omega)
  rcases key ds.length (Nat.le_refl _) with ⟨L, a, b, c, d⟩ | hno
  · exact ⟨L, a, by omega, c, d⟩
  · exact absurd hsome (hno ds.length h1 (Nat.le_refl _))
set_option maxHeartbeats 800000 in
theorem s_PebblingNumber (ds : List (List Int)) (L : Nat) (v : Value) (w : World) (h : Rd_Dag w v ds) (hb : Bd_Dag ds) (hL : goodD ds = true → 1 ≤ L ∧ L ≤ 10 ∧ Rch ds false L ∧ ∀ j, 1 ≤ j → j < L → ¬ Rch ds false j) :
    Calls Try.prog 12 #[v] w (RetX w (.tuple #[.int .i64 (if goodD ds then (L : Int) else 0), .bool (goodD ds)])) := by
  have HV := hd h
  obtain ⟨vc, rfl, hC⟩ := h
  obtain ⟨A, c, rfl, -, -, -⟩ := hC.form
  have XB := hd (Ext.new w (.cells #[.slice A ds.length c] 28))
  have HG := hd (s_l14Good ds _ _ (HV.out.ext XB.out) hb)
  have HLE := hd (fun w' (hx : Ext w w') hg => s_l14Least ds L false _ w' (HV.out.ext hx) hg hb (hL hg).1 (hL hg).2.1 (hL hg).2.2.1 (hL hg).2.2.2)
  clear hC hb hL
  cases hq : goodD ds
  · rw [hq] at HG
    clear hq HLE
    go_enter Try.func12, Try.ntmps12
    go_wp2_with fail
    refine HG.out.mono ?_
    rintro e w1 ⟨rfl, hx1⟩
    have X1 := hd (XB.out.trans hx1)
    clear hx1
    go_wp2
    go_ret2
    exact RetX.mk rfl X1.out
  · rw [hq] at HG
    have HLE2 := hd (fun w' hx => HLE.out w' hx hq)
    clear hq HLE
    have B0 : Hid (∀ w' : World, Ext (w.alloc (.cells #[.slice A ds.length c] 28)) w' → w'.cell? ⟨w.heap.size, 0, none⟩ = some (.slice A ds.length c)) := hd fun w' hx => cell_ofD (hx.heap (heap_n1 w _))
    go_enter Try.func12, Try.ntmps12
    go_wp2_with fail
    refine HG.out.mono ?_
    rintro e w1 ⟨rfl, hx1⟩
    have c0 := B0.out _ hx1
    have X1 := hd (XB.out.trans hx1)
    clear hx1
    go_wp2_with fail
    refine (HLE2.out w1 X1.out).mono ?_
    rintro e w2 ⟨rfl, hx2⟩
    have X2 := hd (X1.out.trans hx2)
    clear hx2
    go_wp2
    go_ret2
    exact RetX.mk rfl X2.out
end Go.Proofs.Ytapgpjhogdmjbaa
