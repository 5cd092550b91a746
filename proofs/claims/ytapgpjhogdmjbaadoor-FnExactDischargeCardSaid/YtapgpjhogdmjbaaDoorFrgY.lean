/-
  Discharge, the reference: the law's function. Conditions: texts and lists up to 2^20.
-/
import Derived.Test.YtapgpjhogdmjbaaDoorFrgV
import Derived.Test.YtapgpjhogdmjbaaDoorFrgX
import Derived.Test.YtapgpjhogdmjbaaDoorFmL
namespace Go.Proofs.YtapgpjhogdmjbaaDoor
open Go.RowKit Go.Sort
theorem disR_len {gs : List (List UInt8)} {rs : List Rec} {i : Int} (h : rs.length ≤ 80) : (disR gs rs i).length ≤ 400 := by
  unfold disR
  have := (disK_len (A := treeOf ⟨(gs.getD i.toNat []).toArray⟩) (i := i) (rs := rs) rs.length (Nat.le_refl _)).2
  omega
set_option maxHeartbeats 1600000 in
theorem s_Discharge (gs : List (List UInt8)) (v : Value) (rs : List Rec) (u : Value) (i : Int) (w : World) (hv : Rd_StringS w v gs) (hb : Bd_StringS gs) (_ : I64_StringS gs) (hu : Rd_FregeStepS w u rs) (hb2 : Bd_FregeStepS rs) (_ : I64_FregeStepS rs) (hii : I64 i) :
    Calls Tryd.prog 6 #[v, u, .int .i64 i] w (RetF2 w (disV gs rs i) (disOk gs rs i)) := by
  have hgl : gs.length ≤ 1048576 := hb
  have HG := hd (s_l24GoodP gs rs v u w hv hu.1 hb2 hgl)
  have HB : Hid (disB gs rs i = (prfS gs rs && inB i 0 ((gs.length : Int) - 1))) := hd rfl
  have HO : Hid (disOk gs rs i = (disB gs rs i && giveF (disR gs rs i))) := hd rfl
  have HV : Hid (disV gs rs i = if disOk gs rs i then disR gs rs i else []) := hd rfl
  have HIN := hd (fun w' => s_l1In i 0 ((gs.length : Int) - 1) w')
  have HDS : Hid (∀ j : Nat, i = (j : Int) → j < gs.length → prfS gs rs = true → ∀ w', Ext w w' → Calls Tryd.prog 19 #[v, u, .int .i64 i] w' (fun e w'' => ∃ u, e = .returned u ∧ OwnF w'' w'.heap.size u (disR gs rs i) ∧ Ext w' w'')) := hd fun j h1 h2 h3 w' hx => by
    subst h1
    exact s_l24Discharge gs rs j h2 h3 v u w' (hv.ext hx) (hu.1.ext hx)
  have HE : Hid (∀ w' : World, OwnF (w'.alloc (.cells #[] 42)) w'.heap.size (.slice (some ⟨w'.heap.size, 0, none⟩) 0 0) []) := hd fun w' => own_lit w' _ 42 4 #[] 0 (Nat.le_refl _) (Nat.zero_le _) rfl
  have HPL : Hid (prfS gs rs = true → (disR gs rs i).length ≤ 400) := hd fun h => disR_len (prf_len h).2
  obtain ⟨A, c, rfl, -, -, -⟩ := hv.form
  obtain ⟨B, d, rfl, -, -, -⟩ := hu.form
  have hbl := hb2.1
  clear hv hu hb hb2
  obtain ⟨q, hq⟩ : ∃ q, prfS gs rs = q := ⟨_, rfl⟩
  rw [hq] at HG HB HDS HPL
  clear hq
  cases q
  · have HF : Hid (disOk gs rs i = false) := hd (by rw [HO.out, HB.out]; rfl)
    rw [HF.out] at HV
    go_enter Tryd.func6, Tryd.ntmps6
    go_wp2_with fail
    refine HG.out.mono ?_
    rintro e w1 ⟨rfl, hx1⟩
    have HX1 := hd hx1
    clear hx1
    go_wp2
    go_ret2
    have h9 := own_rebase (base' := w.heap.size) (HE.out w1) HX1.out.size
    exact ⟨_, by rw [HF.out]; rfl, by rw [HV.out]; exact ⟨h9, own_lt h9, fun r hr => by cases hr⟩, HX1.out.alloc _⟩
  · obtain ⟨q2, hq2⟩ : ∃ q, inB i 0 ((gs.length : Int) - 1) = q := ⟨_, rfl⟩
    have HQ2 := hd hq2
    rw [hq2] at HB HIN
    clear hq2
    cases q2
    · have HF : Hid (disOk gs rs i = false) := hd (by rw [HO.out, HB.out]; rfl)
      rw [HF.out] at HV
      go_enter Tryd.func6, Tryd.ntmps6
      go_wp2_with fail
      refine HG.out.mono ?_
      rintro e w1 ⟨rfl, hx1⟩
      have HX1 := hd hx1
      clear hx1
      go_wp2_with fail
      refine (HIN.out _).mono ?_
      rintro e w2 ⟨rfl, rfl⟩
      go_wp2
      go_ret2
      have h9 := own_rebase (base' := w.heap.size) (HE.out w1) HX1.out.size
      exact ⟨_, by rw [HF.out]; rfl, by rw [HV.out]; exact ⟨h9, own_lt h9, fun r hr => by cases hr⟩, HX1.out.alloc _⟩
    · have hib := inB_iff.1 HQ2.out
      have HOK : Hid (disOk gs rs i = giveF (disR gs rs i)) := hd (by rw [HO.out, HB.out]; rfl)
      rw [HOK.out] at HV
      have HDI := hd (HDS.out i.toNat (by omega) (by omega) rfl)
      have HL := hd (HPL.out rfl)
      have HS : Hid (∀ r ∈ disR gs rs i, giveF (disR gs rs i) = true → r.name.size ≤ 9223372036854775807) := hd fun r hr hgv => by have := (giveF_yes hgv).2 r hr; omega
      clear HDS HPL HO HB hib
      go_enter Tryd.func6, Tryd.ntmps6
      go_wp2_with fail
      refine HG.out.mono ?_
      rintro e w1 ⟨rfl, hx1⟩
      have HX1 := hd hx1
      clear hx1
      go_wp2_with fail
      refine (HIN.out _).mono ?_
      rintro e w2 ⟨rfl, rfl⟩
      go_wp2_with fail
      refine (HDI.out _ HX1.out).mono ?_
      rintro e w3 ⟨u3, rfl, hu3, hx3⟩
      have HX3 := hd (HX1.out.trans hx3)
      have HU := hd (own_rebase (base' := w.heap.size) hu3 HX1.out.size)
      clear hu3 hx3 HDI
      generalize disR gs rs i = ds at *
      obtain ⟨n, hn⟩ : ∃ n, ds.length = n := ⟨_, rfl⟩
      have HN := hd hn
      have hnl : n ≤ 400 := by have := HL.out; omega
      obtain ⟨A2, c2, rfl⟩ := OwnF.form2 HU.out hn
      have HR : RdRec w3 (.slice A2 n c2) ds := by have := own_rd HU.out; rw [hn] at this; unfold RdRec; rw [hn]; exact this
      clear hn
      go_wp2_with fail
      refine (s_l24Give ds A2 c2 n _ HR HN.out (by omega)).mono ?_
      obtain ⟨q, hq⟩ : ∃ q, giveF ds = q := ⟨_, rfl⟩
      rw [hq]
      have HQ := hd hq
      clear HR hq
      cases q
      · rintro e w4 ⟨u4, rfl, hu4, hx4⟩
        have HU4 := hd hu4
        have HX4 := hd hx4
        clear hu4 hx4
        go_wp2
        go_ret2
        have h9 := own_rebase (base' := w.heap.size) HU4.out HX3.out.size
        exact ⟨_, by rw [HOK.out, HQ.out]; rfl, by rw [HV.out, HQ.out]; exact ⟨h9, own_lt h9, fun r hr => by cases hr⟩, HX3.out.trans HX4.out⟩
      · rintro e w4 ⟨rfl, rfl⟩
        go_wp2
        go_ret2
        exact ⟨_, by rw [HOK.out, HQ.out]; rfl, by rw [HV.out, HQ.out]; exact ⟨HU.out, own_lt HU.out, fun r hr => HS.out r hr HQ.out⟩, HX3.out⟩
end Go.Proofs.YtapgpjhogdmjbaaDoor
