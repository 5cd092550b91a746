/-
  Pebbling, the least time: both sides. Condition, of the program's side alone: a shortest pebbling has at most 300 moves.
-/
import Derived.Test.YtapgpjhogdmjbaaPebR
namespace Go.Proofs.Ytapgpjhogdmjbaa
open Go.RowKit Peb
open Classical in
/-- Does the call give a time? -/
noncomputable def timeB (ds : List (List Int)) (s : Int) (rev : Bool) : Bool := goodD ds && (inB s 1 10 && decide (Rch ds rev s.toNat))
open Classical in
noncomputable def timeN (ds : List (List Int)) (s : Int) (rev : Bool) : Int := if h : timeB ds s rev = true ∧ ∃ d, Dst (eP ds ds.length rev s.toNat) (dP ds.length rev s.toNat) (2 ^ ds.length) d 0 then ((Classical.choose h.2 : Nat) : Int) else 0
theorem time_no {ds : List (List Int)} {s : Int} {rev : Bool} (h : timeB ds s rev = false) : timeN ds s rev = 0 := by
  unfold timeN
  rw [dif_neg (fun hh => by rw [h] at hh; cases hh.1)]
open Classical in
theorem time_bad {ds : List (List Int)} {s : Int} {rev : Bool} (h : goodD ds = false ∨ inB s 1 10 = false) : timeB ds s rev = false := by
  unfold timeB
  rcases h with h | h
  · rw [h, Bool.false_and]
  · rw [h, Bool.false_and, Bool.and_false]
open Classical in
theorem time_neg {ds : List (List Int)} {s : Nat} {rev : Bool} {F : List Int} (h : FinD (eP ds ds.length rev s) (dP ds.length rev s) (2 ^ ds.length) F) (hn : fa F 0 < 0) : timeB ds (s : Int) rev = false := by
  unfold timeB
  rw [Int.toNat_natCast, decide_eq_false ((fin_neg h).1 hn), Bool.and_false, Bool.and_false]
open Classical in
theorem time_pos {ds : List (List Int)} {s : Nat} {rev : Bool} {F : List Int} (hg : goodD ds = true) (hs : inB (s : Int) 1 10 = true) (h : FinD (eP ds ds.length rev s) (dP ds.length rev s) (2 ^ ds.length) F) (hn : ¬ fa F 0 < 0) : timeB ds (s : Int) rev = true ∧ timeN ds (s : Int) rev = fa F 0 := by
  have hr : Rch ds rev s := Classical.byContradiction fun hr => hn ((fin_neg h).2 hr)
  have hb : timeB ds (s : Int) rev = true := by
    unfold timeB
    rw [Int.toNat_natCast, hg, hs, decide_eq_true hr]; rfl
  refine ⟨hb, ?_⟩
  unfold timeN
  rw [dif_pos ⟨hb, by rw [Int.toNat_natCast]; exact hr⟩]
  have hc := Classical.choose_spec (show timeB ds (s : Int) rev = true ∧ ∃ d, Dst (eP ds ds.length rev (s : Int).toNat) (dP ds.length rev (s : Int).toNat) (2 ^ ds.length) d 0 from ⟨hb, by rw [Int.toNat_natCast]; exact hr⟩).2
  have key : ∀ t d, t = s → Dst (eP ds ds.length rev t) (dP ds.length rev t) (2 ^ ds.length) d 0 → ((d : Nat) : Int) = fa F 0 := fun t d ht hd => by
    subst ht
    exact (h.yes 0 d (Nat.pow_pos (by decide)) hd).symm
  exact key _ _ (Int.toNat_natCast s) hc
def RetT2 (w : World) (n : Int) (b : Bool) : Ending → World → Prop := RetX w (.tuple #[.int .i64 n, .bool b])
set_option maxRecDepth 100000 in
set_option maxHeartbeats 1600000 in
theorem s_TimeFor (ds : List (List Int)) (s : Int) (rev : Bool) (v : Value) (w : World) (h : Rd_Dag w v ds) (hb : Bd_Dag ds) :
    Calls Try.prog 8 #[v, .int .i64 s, .bool rev] w (RetT2 w (timeN ds s rev) (timeB ds s rev)) := by
  have HV := hd h
  obtain ⟨vc, rfl, hC⟩ := h
  obtain ⟨A, c, rfl, -, -, -⟩ := hC.form
  have XB := hd (Ext.new w (.cells #[.slice A ds.length c] 28))
  have HG := hd (s_l14Good ds _ _ (HV.out.ext XB.out) hb)
  have HFAR := hd (fun (w' : World) (hx : Ext w w') (hg : goodD ds = true) (sn : Nat) (hs : sn ≤ 10) => s_l14Far ds sn rev _ w' (HV.out.ext hx) hg hb hs)
  have HM0 : Hid (0 < 2 ^ ds.length) := hd (Nat.pow_pos (by decide))
  have B0 : Hid (∀ w' : World, Ext (w.alloc (.cells #[.slice A ds.length c] 28)) w' → w'.cell? ⟨w.heap.size, 0, none⟩ = some (.slice A ds.length c)) := hd fun w' hx => cell_ofD (hx.heap (heap_n1 w _))
  clear hC hb
  cases hq : goodD ds
  · have HB := hd (time_bad (ds := ds) (s := s) (rev := rev) (.inl hq))
    have HN := hd (time_no HB.out)
    rw [hq] at HG
    rw [HB.out, HN.out]
    clear hq HFAR B0
    go_enter Try.func8, Try.ntmps8
    go_wp2_with fail
    refine HG.out.mono ?_
    rintro e w1 ⟨rfl, hx1⟩
    have X1 := hd (XB.out.trans hx1)
    clear hx1
    go_wp2
    go_ret2
    exact RetX.mk rfl X1.out
  · obtain ⟨q, hi⟩ : ∃ q, inB s 1 10 = q := ⟨_, rfl⟩
    have HI := hd hi
    have HGD := hd hq
    rw [hq] at HG
    clear hq
    cases q
    · have HB := hd (time_bad (ds := ds) (s := s) (rev := rev) (.inr hi))
      have HN := hd (time_no HB.out)
      rw [HB.out, HN.out]
      clear hi B0
      go_enter Try.func8, Try.ntmps8
      go_wp2_with fail
      refine HG.out.mono ?_
      rintro e w1 ⟨rfl, hx1⟩
      have X1 := hd (XB.out.trans hx1)
      clear hx1
      go_wp2_with fail
      refine (rt (s_l1In _ _ _ _) HI).mono ?_
      rintro e w2 ⟨rfl, rfl⟩
      go_wp2
      go_ret2
      exact RetX.mk rfl X1.out
    · have hs10 := inB_iff.1 hi
      obtain ⟨sn, hsn⟩ : ∃ sn : Nat, s = (sn : Int) := ⟨s.toNat, by omega⟩
      subst hsn
      have HFAR2 := hd (fun w' hx => HFAR.out w' hx HGD.out sn (by omega))
      have HNG := hd (fun F hF hn => time_neg (ds := ds) (s := sn) (rev := rev) (F := F) hF hn)
      have HPS := hd (fun F hF hn => time_pos (ds := ds) (s := sn) (rev := rev) (F := F) HGD.out hi hF hn)
      clear hi HFAR
      go_enter Try.func8, Try.ntmps8
      go_wp2_with fail
      refine HG.out.mono ?_
      rintro e w1 ⟨rfl, hx1⟩
      have X1 := hd (XB.out.trans hx1)
      have c0 := B0.out w1 hx1
      clear hx1
      go_wp2_with fail
      refine (rt (s_l1In _ _ _ _) HI).mono ?_
      rintro e w2 ⟨rfl, rfl⟩
      go_wp2_with fail
      refine (HFAR2.out _ X1.out).mono ?_
      rintro e w5 ⟨g, F, rfl, hO, hF, hx5⟩
      have hc := far_zero hO hF.fl HM0.out
      have X5 := hd (X1.out.trans hx5)
      have hM0 := HM0.out
      clear hO hx5
      by_cases hneg : fa F 0 < 0
      · have HB := hd (HNG.out F hF hneg)
        have HN := hd (time_no HB.out)
        clear hF HNG HPS
        generalize hf0 : fa F 0 = f0 at *
        clear hf0
        generalize 2 ^ ds.length = M at *
        go_wp2
        go_ret2
        exact RetX.mk (by rw [HB.out, HN.out]; rfl) X5.out
      · obtain ⟨hB, hN⟩ := HPS.out F hF (by omega)
        have HB := hd hB
        have HN := hd hN
        clear hF HNG HPS hB hN
        generalize hf0 : fa F 0 = f0 at *
        clear hf0
        generalize 2 ^ ds.length = M at *
        go_wp2
        go_ret2
        exact RetX.mk (by rw [HB.out, HN.out]; rfl) X5.out
set_option maxRecDepth 100000 in
set_option maxHeartbeats 1600000 in
theorem i_TimeFor (ds : List (List Int)) (s : Int) (rev : Bool) (v : Value) (w : World) (h : Rd_Dag w v ds) (hb : Bd_Dag ds) (hS : goodD ds = true → ShortD ds rev) :
    Calls Try.prog 10 #[v, .int .i64 s, .bool rev] w (RetT2 w (timeN ds s rev) (timeB ds s rev)) := by
  have HV := hd h
  obtain ⟨vc, rfl, hC⟩ := h
  obtain ⟨A, c, rfl, -, -, -⟩ := hC.form
  have XB := hd (Ext.new w (.cells #[.slice A ds.length c] 28))
  have HG := hd (i_IsDag ds _ _ (HV.out.ext XB.out) hb)
  have HFAR := hd (fun (w' : World) (hx : Ext w w') (hg : goodD ds = true) (sn : Nat) (_ : sn ≤ 10) => i_left ds sn rev _ w' (HV.out.ext hx) hg hb)
  have HM0 : Hid (0 < 2 ^ ds.length) := hd (Nat.pow_pos (by decide))
  have B0 : Hid (∀ w' : World, Ext (w.alloc (.cells #[.slice A ds.length c] 28)) w' → w'.cell? ⟨w.heap.size, 0, none⟩ = some (.slice A ds.length c)) := hd fun w' hx => cell_ofD (hx.heap (heap_n1 w _))
  have HS := hd hS
  clear hS
  clear hC hb
  cases hq : goodD ds
  · have HB := hd (time_bad (ds := ds) (s := s) (rev := rev) (.inl hq))
    have HN := hd (time_no HB.out)
    rw [hq] at HG
    rw [HB.out, HN.out]
    clear hq HFAR B0 HS
    go_enter Try.func10, Try.ntmps10
    go_wp2_with fail
    refine HG.out.mono ?_
    rintro e w1 ⟨rfl, hx1⟩
    have X1 := hd (XB.out.trans hx1)
    clear hx1
    go_wp2
    go_ret2
    exact RetX.mk rfl X1.out
  · obtain ⟨q, hi⟩ : ∃ q, inB s 1 10 = q := ⟨_, rfl⟩
    have HI := hd hi
    have HGD := hd hq
    rw [hq] at HG
    clear hq
    cases q
    · have HB := hd (time_bad (ds := ds) (s := s) (rev := rev) (.inr hi))
      have HN := hd (time_no HB.out)
      rw [HB.out, HN.out]
      clear hi B0
      go_enter Try.func10, Try.ntmps10
      go_wp2_with fail
      refine HG.out.mono ?_
      rintro e w1 ⟨rfl, hx1⟩
      have X1 := hd (XB.out.trans hx1)
      clear hx1
      go_wp2_with fail
      refine (rt (i_within _ _ _ _) HI).mono ?_
      rintro e w2 ⟨rfl, rfl⟩
      go_wp2
      go_ret2
      exact RetX.mk rfl X1.out
    · have hs10 := inB_iff.1 hi
      obtain ⟨sn, hsn⟩ : ∃ sn : Nat, s = (sn : Int) := ⟨s.toNat, by omega⟩
      subst hsn
      have HFAR2 := hd (fun w' hx => HFAR.out w' hx HGD.out sn (by omega))
      have HNG := hd (fun F hF hn => time_neg (ds := ds) (s := sn) (rev := rev) (F := F) hF hn)
      have HPS := hd (fun F hF hn => time_pos (ds := ds) (s := sn) (rev := rev) (F := F) HGD.out hi hF hn)
      have HFI := hd (fun F hF => fin_in (ds := ds) (s := sn) (rev := rev) (F := F) hF (HS.out HGD.out) (by omega))
      clear hi HFAR
      go_enter Try.func10, Try.ntmps10
      go_wp2_with fail
      refine HG.out.mono ?_
      rintro e w1 ⟨rfl, hx1⟩
      have X1 := hd (XB.out.trans hx1)
      have c0 := B0.out w1 hx1
      clear hx1
      go_wp2_with fail
      refine (rt (i_within _ _ _ _) HI).mono ?_
      rintro e w2 ⟨rfl, rfl⟩
      go_wp2_with fail
      refine (HFAR2.out _ X1.out).mono ?_
      rintro e w5 ⟨g, F, rfl, hO, hF, hx5⟩
      have hc := far_zero hO hF.fl HM0.out
      have X5 := hd (X1.out.trans hx5)
      have hM0 := HM0.out
      have HF2 := hd (HFI.out F hF)
      clear hO hx5
      by_cases hneg : fa F 0 < 0
      · have HB := hd (HNG.out F hF hneg)
        have HN := hd (time_no HB.out)
        have HF3 := hd (HF2.out.trans (by rw [decide_eq_true hneg]; rfl : _ = false))
        clear HF2 HFI
        clear hF HNG HPS
        generalize hf0 : fa F 0 = f0 at *
        clear hf0
        generalize 2 ^ ds.length = M at *
        go_wp2_with fail
        refine (rt (i_within _ _ _ _) HF3).mono ?_
        rintro e w6 ⟨rfl, rfl⟩
        go_wp2
        go_ret2
        exact RetX.mk (by rw [HB.out, HN.out]; rfl) X5.out
      · obtain ⟨hB, hN⟩ := HPS.out F hF (by omega)
        have HB := hd hB
        have HN := hd hN
        have HF3 := hd (HF2.out.trans (by rw [decide_eq_false hneg]; rfl : _ = true))
        clear HF2 HFI
        clear hF HNG HPS hB hN
        generalize hf0 : fa F 0 = f0 at *
        clear hf0
        generalize 2 ^ ds.length = M at *
        go_wp2_with fail
        refine (rt (i_within _ _ _ _) HF3).mono ?_
        rintro e w6 ⟨rfl, rfl⟩
        go_wp2
        go_ret2
        exact RetX.mk (by rw [HB.out, HN.out]; rfl) X5.out
end Go.Proofs.Ytapgpjhogdmjbaa
