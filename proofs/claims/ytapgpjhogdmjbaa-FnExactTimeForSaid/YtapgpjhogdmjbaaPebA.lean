/-
  Reversible pebbling: a shortest one has at most 300 moves; so both sides of ReversibleNumber and of TimeFor. Condition: what the sides are given.
-/
import Derived.Test.YtapgpjhogdmjbaaRevE
import Derived.Test.YtapgpjhogdmjbaaRevI
import Derived.Test.YtapgpjhogdmjbaaPebW
namespace Go.Proofs.Ytapgpjhogdmjbaa
open Go.RowKit Peb
theorem short_rev {ds : List (List Int)} (h : goodD ds = true) : ShortD ds true := fun _ _ hs hd => by
  obtain ⟨h1, h10, hdag⟩ := goodD_dag h
  exact rev_dst Tt.nine_ok h1 h10 hdag hs hd
theorem short_any {ds : List (List Int)} (rev : Bool) (h : goodD ds = true) : ShortD ds rev := by
  cases rev
  · exact short_irr h
  · exact short_rev h
theorem rev_least {ds : List (List Int)} (h : goodD ds = true) : ∃ L, 1 ≤ L ∧ L ≤ 10 ∧ Rch ds true L ∧ ∀ j, 1 ≤ j → j < L → ¬ Rch ds true j := by
  obtain ⟨h1, h10, hdag⟩ := goodD_dag h
  have hsome : Rch ds true ds.length := rev_some h1 h10 hdag
  have key : ∀ m, m ≤ ds.length → (∃ L, 1 ≤ L ∧ L ≤ m ∧ Rch ds true L ∧ ∀ j, 1 ≤ j → j < L → ¬ Rch ds true j) ∨ ∀ j, 1 ≤ j → j ≤ m → ¬ Rch ds true j := by
    intro m
    induction m with
    | zero => intro _; exact .inr fun j h1 h2 => by omega
    | succ m ih =>
      intro hm
      rcases ih (by omega) with ⟨L, a, b, c, d⟩ | hno
      · exact .inl ⟨L, a, by omega, c, d⟩
      · by_cases hr : Rch ds true (m + 1)
        · exact .inl ⟨m + 1, by omega, Nat.le_refl _, hr, fun j a b => hno j a (by omega)⟩
        · refine .inr fun j a b => ?_
          by_cases e : j = m + 1
          · subst e; exact hr
          · exact hno j a (by omega)
  rcases key ds.length (Nat.le_refl _) with ⟨L, a, b, c, d⟩ | hno
  · exact ⟨L, a, by omega, c, d⟩
  · exact absurd hsome (hno ds.length h1 (Nat.le_refl _))
set_option maxHeartbeats 800000 in
theorem s_ReversibleNumber (ds : List (List Int)) (L : Nat) (v : Value) (w : World) (h : Rd_Dag w v ds) (hb : Bd_Dag ds) (hL : goodD ds = true → 1 ≤ L ∧ L ≤ 10 ∧ Rch ds true L ∧ ∀ j, 1 ≤ j → j < L → ¬ Rch ds true j) :
    Calls Try.prog 14 #[v] w (RetX w (.tuple #[.int .i64 (if goodD ds then (L : Int) else 0), .bool (goodD ds)])) := by
  have HV := hd h
  obtain ⟨vc, rfl, hC⟩ := h
  obtain ⟨A, c, rfl, -, -, -⟩ := hC.form
  have XB := hd (Ext.new w (.cells #[.slice A ds.length c] 28))
  have HG := hd (s_l14Good ds _ _ (HV.out.ext XB.out) hb)
  have HLE := hd (fun w' (hx : Ext w w') hg => s_l14Least ds L true _ w' (HV.out.ext hx) hg hb (hL hg).1 (hL hg).2.1 (hL hg).2.2.1 (hL hg).2.2.2)
  clear hC hb hL
  cases hq : goodD ds
  · rw [hq] at HG
    clear hq HLE
    go_enter Try.func14, Try.ntmps14
    go_wp2_with fail
    refine HG.out.mono ?_
    rintro e w1 ⟨rfl, hx1⟩
    have X1 := hd (XB.out.trans hx1)
    clear hx1
    go_wp2
    go_ret2
    exact RetX.mk rfl X1.out
  · rw [hq] at HG
    have HLE2 := hd (fun w' hx => HLE.out w' hx hq)
    clear hq HLE
    have B0 : Hid (∀ w' : World, Ext (w.alloc (.cells #[.slice A ds.length c] 28)) w' → w'.cell? ⟨w.heap.size, 0, none⟩ = some (.slice A ds.length c)) := hd fun w' hx => cell_ofD (hx.heap (heap_n1 w _))
    go_enter Try.func14, Try.ntmps14
    go_wp2_with fail
    refine HG.out.mono ?_
    rintro e w1 ⟨rfl, hx1⟩
    have c0 := B0.out _ hx1
    have X1 := hd (XB.out.trans hx1)
    clear hx1
    go_wp2_with fail
    refine (HLE2.out w1 X1.out).mono ?_
    rintro e w2 ⟨rfl, hx2⟩
    have X2 := hd (X1.out.trans hx2)
    clear hx2
    go_wp2
    go_ret2
    exact RetX.mk rfl X2.out
set_option maxHeartbeats 800000 in
theorem i_ReversibleNumber (ds : List (List Int)) (L : Nat) (v : Value) (w : World) (h : Rd_Dag w v ds) (hb : Bd_Dag ds) (hL : goodD ds = true → ShortD ds true ∧ 1 ≤ L ∧ L ≤ 10 ∧ Rch ds true L ∧ ∀ j, 1 ≤ j → j < L → ¬ Rch ds true j) :
    Calls Try.prog 15 #[v] w (RetX w (.tuple #[.int .i64 (if goodD ds then (L : Int) else 0), .bool (goodD ds)])) := by
  have HV := hd h
  obtain ⟨vc, rfl, hC⟩ := h
  obtain ⟨A, c, rfl, -, -, -⟩ := hC.form
  have XB := hd (Ext.new w (.cells #[.slice A ds.length c] 28))
  have HG := hd (i_IsDag ds _ _ (HV.out.ext XB.out) hb)
  have HLE := hd (fun w' (hx : Ext w w') hg => i_leastSize ds L true _ w' (HV.out.ext hx) hg hb (hL hg).1 (hL hg).2.1 (hL hg).2.2.1 (hL hg).2.2.2.1 (hL hg).2.2.2.2)
  clear hC hb hL
  cases hq : goodD ds
  · rw [hq] at HG
    clear hq HLE
    go_enter Try.func15, Try.ntmps15
    go_wp2_with fail
    refine HG.out.mono ?_
    rintro e w1 ⟨rfl, hx1⟩
    have X1 := hd (XB.out.trans hx1)
    clear hx1
    go_wp2
    go_ret2
    exact RetX.mk rfl X1.out
  · rw [hq] at HG
    have HLE2 := hd (fun w' hx => HLE.out w' hx hq)
    clear hq HLE
    have B0 : Hid (∀ w' : World, Ext (w.alloc (.cells #[.slice A ds.length c] 28)) w' → w'.cell? ⟨w.heap.size, 0, none⟩ = some (.slice A ds.length c)) := hd fun w' hx => cell_ofD (hx.heap (heap_n1 w _))
    go_enter Try.func15, Try.ntmps15
    go_wp2_with fail
    refine HG.out.mono ?_
    rintro e w1 ⟨rfl, hx1⟩
    have c0 := B0.out _ hx1
    have X1 := hd (XB.out.trans hx1)
    clear hx1
    go_wp2_with fail
    refine (HLE2.out w1 X1.out).mono ?_
    rintro e w2 ⟨rfl, hx2⟩
    have X2 := hd (X1.out.trans hx2)
    clear hx2
    go_wp2
    go_ret2
    exact RetX.mk rfl X2.out
theorem s_ReversibleNumberL (ds : List (List Int)) (v : Value) (w : World) (h : Rd_Dag w v ds) (hb : Bd_Dag ds) (_ : I64_Dag ds) :
    Calls Try.prog 14 #[v] w (RetX w (.tuple #[.int .i64 (pebN ds true), .bool (goodD ds)])) :=
  s_ReversibleNumber ds (leastP ds true) v w h hb fun hg => leastP_spec (rev_least hg)
theorem i_ReversibleNumberL (ds : List (List Int)) (v : Value) (w : World) (h : Rd_Dag w v ds) (hb : Bd_Dag ds) (_ : I64_Dag ds) :
    Calls Try.prog 15 #[v] w (RetX w (.tuple #[.int .i64 (pebN ds true), .bool (goodD ds)])) :=
  i_ReversibleNumber ds (leastP ds true) v w h hb fun hg => ⟨short_rev hg, leastP_spec (rev_least hg)⟩
theorem s_TimeForL (ds : List (List Int)) (v : Value) (s : Int) (rev : Bool) (w : World) (h : Rd_Dag w v ds) (hb : Bd_Dag ds) (_ : I64_Dag ds) (_ : I64 s) :
    Calls Try.prog 8 #[v, .int .i64 s, .bool rev] w (RetX w (.tuple #[.int .i64 (timeN ds s rev), .bool (timeB ds s rev)])) := s_TimeFor ds s rev v w h hb
theorem i_TimeForL (ds : List (List Int)) (v : Value) (s : Int) (rev : Bool) (w : World) (h : Rd_Dag w v ds) (hb : Bd_Dag ds) (_ : I64_Dag ds) (_ : I64 s) :
    Calls Try.prog 10 #[v, .int .i64 s, .bool rev] w (RetX w (.tuple #[.int .i64 (timeN ds s rev), .bool (timeB ds s rev)])) := i_TimeFor ds s rev v w h hb fun hg => short_any rev hg
end Go.Proofs.Ytapgpjhogdmjbaa
