/-
  CaseOf of both sides. Conditions: the program's table of schemes holds the schemes; texts up to 2^20.
-/
import Derived.Test.YtmfgcpeddfbngaaDoorCas
namespace Go.Proofs.YtmfgcpeddfbngaaDoor
open Go.RowKit
def caseOk (k : Int) (a b c : ByteArray) : Bool := inB k 1 10 && (isF a && (isF b && (isF c && decide ((caseL k.toNat a.data.toList b.data.toList c.data.toList).length ≤ 80))))
def caseV (k : Int) (a b c : ByteArray) : ByteArray := if caseOk k a b c then ⟨(caseL k.toNat a.data.toList b.data.toList c.data.toList).toArray⟩ else ⟨#[]⟩
theorem isF_size {s : ByteArray} (h : isF s = true) : s.size ≤ 80 := by
  unfold isF at h
  cases hg : goodF s with
  | none => rw [hg] at h; cases h
  | some f => exact (goodF_iff.1 hg).1
theorem isF_fm {s : ByteArray} (h : isF s = true) : ∃ f, goodF s = some f ∧ s.data.toList = txt f ∧ WfF f = true ∧ (txt f).length ≤ 80 := by
  unfold isF at h
  cases hg : goodF s with
  | none => rw [hg] at h; cases h
  | some f =>
    obtain ⟨h1, h2, h3⟩ := goodF_iff.1 hg
    exact ⟨f, rfl, h2, h3, by rw [← h2, len_list]; exact h1⟩
theorem inB_succ {k : Int} (h : inB k 1 10 = true) : ∃ j : Nat, j < 10 ∧ k = (j : Int) + 1 := by
  obtain ⟨h1, h2⟩ := inB_iff.1 h
  exact ⟨(k - 1).toNat, by omega, by omega⟩
theorem caseV_no {k : Int} {a b c : ByteArray} (h : caseOk k a b c = false) : caseV k a b c = ⟨#[]⟩ := by unfold caseV; rw [h]; rfl
theorem caseV_yes {k : Int} {a b c : ByteArray} (h : caseOk k a b c = true) : caseV k a b c = ⟨(caseL k.toNat a.data.toList b.data.toList c.data.toList).toArray⟩ := by unfold caseV; rw [h]; rfl
theorem s_l24Scheme (k : Int) (w : World) : Calls Tryd.prog 21 #[.int .i64 k] w (Ret w (.bool (inB k 1 10))) := by
  go_enter Tryd.func21, Tryd.ntmps21
  go_wp2_with fail
  refine (s_l1In k 1 10 w).mono ?_
  rintro e w1 ⟨rfl, rfl⟩
  go_wp2
  go_ret
  exact Ret.mk rfl
set_option maxHeartbeats 1600000 in
theorem s_CaseOf (k : Int) (a b c : ByteArray) (w : World) (_ : I64 k) (_ : a.size ≤ 1048576) (_ : b.size ≤ 1048576) (_ : c.size ≤ 1048576) :
    Calls Tryd.prog 6 #[.int .i64 k, .string a, .string b, .string c] w (RetX w (.tuple #[.string (caseV k a b c), .bool (caseOk k a b c)])) := by
  obtain ⟨q0, h0⟩ : ∃ q, inB k 1 10 = q := ⟨_, rfl⟩
  obtain ⟨qa, ha⟩ : ∃ q, isF a = q := ⟨_, rfl⟩
  obtain ⟨qb, hb⟩ : ∃ q, isF b = q := ⟨_, rfl⟩
  obtain ⟨qc, hc⟩ : ∃ q, isF c = q := ⟨_, rfl⟩
  have H0 := hd h0
  have HA := hd ha
  have HB := hd hb
  have HC := hd hc
  have HO : Hid (caseOk k a b c = (q0 && (qa && (qb && (qc && decide ((caseL k.toNat a.data.toList b.data.toList c.data.toList).length ≤ 80)))))) := hd (by unfold caseOk; rw [h0, ha, hb, hc])
  cases q0
  · have HF : Hid (caseOk k a b c = false) := hd (by rw [HO.out]; rfl)
    have HV := hd (caseV_no HF.out)
    clear h0 ha hb hc
    go_enter Tryd.func6, Tryd.ntmps6
    go_wp2_with fail
    refine (rt (s_l24Scheme k w) H0).mono ?_
    rintro e w1 ⟨rfl, rfl⟩
    go_wp2
    go_ret2
    exact RetX.mk (by rw [HV.out, HF.out]; rfl) (Ext.refl _)
  · cases qa
    · have HF : Hid (caseOk k a b c = false) := hd (by rw [HO.out]; rfl)
      have HV := hd (caseV_no HF.out)
      clear h0 ha hb hc
      go_enter Tryd.func6, Tryd.ntmps6
      go_wp2_with fail
      refine (rt (s_l24Scheme k w) H0).mono ?_
      rintro e w1 ⟨rfl, rfl⟩
      go_wp2_with fail
      refine (rt (s_l22Good a _) HA).mono ?_
      rintro e w1 ⟨rfl, rfl⟩
      go_wp2
      go_ret2
      exact RetX.mk (by rw [HV.out, HF.out]; rfl) (Ext.refl _)
    · cases qb
      · have HF : Hid (caseOk k a b c = false) := hd (by rw [HO.out]; rfl)
        have HV := hd (caseV_no HF.out)
        clear h0 ha hb hc
        go_enter Tryd.func6, Tryd.ntmps6
        go_wp2_with fail
        refine (rt (s_l24Scheme k w) H0).mono ?_
        rintro e w1 ⟨rfl, rfl⟩
        go_wp2_with fail
        refine (rt (s_l22Good a _) HA).mono ?_
        rintro e w1 ⟨rfl, rfl⟩
        go_wp2_with fail
        refine (rt (s_l22Good b _) HB).mono ?_
        rintro e w1 ⟨rfl, rfl⟩
        go_wp2
        go_ret2
        exact RetX.mk (by rw [HV.out, HF.out]; rfl) (Ext.refl _)
      · cases qc
        · have HF : Hid (caseOk k a b c = false) := hd (by rw [HO.out]; rfl)
          have HV := hd (caseV_no HF.out)
          clear h0 ha hb hc
          go_enter Tryd.func6, Tryd.ntmps6
          go_wp2_with fail
          refine (rt (s_l24Scheme k w) H0).mono ?_
          rintro e w1 ⟨rfl, rfl⟩
          go_wp2_with fail
          refine (rt (s_l22Good a _) HA).mono ?_
          rintro e w1 ⟨rfl, rfl⟩
          go_wp2_with fail
          refine (rt (s_l22Good b _) HB).mono ?_
          rintro e w1 ⟨rfl, rfl⟩
          go_wp2_with fail
          refine (rt (s_l22Good c _) HC).mono ?_
          rintro e w1 ⟨rfl, rfl⟩
          go_wp2
          go_ret2
          exact RetX.mk (by rw [HV.out, HF.out]; rfl) (Ext.refl _)
        · obtain ⟨j, hj, rfl⟩ := inB_succ h0
          have hsa := isF_size ha
          have hsb := isF_size hb
          have hsc := isF_size hc
          have hkn : ((j : Int) + 1).toNat = j + 1 := by omega
          have HL := hd (s_l24Case j hj a b c (by omega) (by omega) (by omega) w)
          have HVY := hd (caseV_yes (k := (j : Int) + 1) (a := a) (b := b) (c := c))
          have HVN := hd (caseV_no (k := (j : Int) + 1) (a := a) (b := b) (c := c))
          rw [hkn] at HO HVY
          generalize caseL (j + 1) a.data.toList b.data.toList c.data.toList = l at *
          clear h0 ha hb hc hsa hsb hsc
          go_enter Tryd.func6, Tryd.ntmps6
          go_wp2_with fail
          refine (rt (s_l24Scheme _ w) H0).mono ?_
          rintro e w1 ⟨rfl, rfl⟩
          go_wp2_with fail
          refine (rt (s_l22Good a _) HA).mono ?_
          rintro e w1 ⟨rfl, rfl⟩
          go_wp2_with fail
          refine (rt (s_l22Good b _) HB).mono ?_
          rintro e w1 ⟨rfl, rfl⟩
          go_wp2_with fail
          refine (rt (s_l22Good c _) HC).mono ?_
          rintro e w1 ⟨rfl, rfl⟩
          go_wp2_with fail
          refine HL.out.mono ?_
          rintro e w1 ⟨rfl, hx⟩
          have HX := hd hx
          have hls : (⟨l.toArray⟩ : ByteArray).size = l.length := by simp [ByteArray.size]
          have HLS := hd hls
          obtain ⟨t, ht⟩ : ∃ t : ByteArray, ⟨l.toArray⟩ = t := ⟨_, rfl⟩
          rw [ht] at HLS HVY ⊢
          clear hx hls ht
          by_cases h80 : l.length ≤ 80
          · have HF : Hid (caseOk ((j : Int) + 1) a b c = true) := hd (by rw [HO.out, decide_eq_true h80]; rfl)
            have HV := hd (HVY.out HF.out)
            have hgt : ¬ (80 : Int) < (t.size : Int) := by rw [HLS.out]; omega
            go_wp2
            go_ret2
            exact RetX.mk (by rw [HV.out, HF.out]; rfl) HX.out
          · have HF : Hid (caseOk ((j : Int) + 1) a b c = false) := hd (by rw [HO.out, decide_eq_false h80]; rfl)
            have HV := hd (HVN.out HF.out)
            have hgt : (80 : Int) < (t.size : Int) := by rw [HLS.out]; omega
            go_wp2
            go_ret2
            exact RetX.mk (by rw [HV.out, HF.out]; rfl) HX.out
theorem sch_good (k : Nat) : goodF (schS k) = some (schT k) := goodF_iff.2 ⟨by unfold schS; rw [strF_size]; have := (schT_ok k).2.2.1; omega, strF_list _, (schT_ok k).1⟩
set_option maxHeartbeats 1600000 in
theorem i_caseOf (j : Nat) (hj : j < 10) (x y z : Fm) (px py pz : Option Addr) (hx : (txt x).length ≤ 1000) (hy : (txt y).length ≤ 1000) (hz : (txt z).length ≤ 1000) (w : World) (hg : GlobS w)
    (h97 : RdF 76 w x (.pointer px)) (h98 : RdF 76 w y (.pointer py)) (h99 : occF 99 (schT (j + 1)) = true → RdF 76 w z (.pointer pz)) :
    Calls Tryd.prog 26 #[.int .i64 ((j : Int) + 1), .pointer px, .pointer py, .pointer pz] w (RetF w (putF x y z (schT (j + 1)))) := by
  have hc0 := hg j hj
  have hwr : IntKind.i64.wrap ((j : Int) + 1 - 1) = (j : Int) := by rw [show (j : Int) + 1 - 1 = (j : Int) from by omega]; exact IntWalk.i64_in _ (by omega)
  have hj0 : (0 : Int) ≤ (j : Int) := by omega
  have hj1 : (j : Int) < 10 := by omega
  have HG := hd (sch_good (j + 1))
  have HS := hd (schT_ok (j + 1))
  have H97 := hd h97
  have H98 := hd h98
  have H99 := hd h99
  clear hg h97 h98 h99
  generalize schS (j + 1) = s at *
  generalize schT (j + 1) = f at *
  go_enter Tryd.func26, Tryd.ntmps26
  go_wp2_with fail
  refine (rp_yes (i_parse s _) HG).mono ?_
  rintro e w1 ⟨v, rfl, hv, hx1⟩
  have HX1 := hd hx1
  have HV := hd hv
  clear hv hx1 hc0
  go_wp2_with fail
  refine (i_put x y z px py pz hx hy hz f HS.out.1 HS.out.2.1 HS.out.2.2.1 v _ HV.out (fun _ => H97.out.ext HX1.out) (fun _ => H98.out.ext HX1.out) (fun e => (H99.out e).ext HX1.out)).mono ?_
  rintro e w2 ⟨u, rfl, hu, hx2⟩
  have HU := hd hu
  have HX2 := hd (HX1.out.trans hx2)
  clear hu hx2
  go_wp2
  go_ret
  exact ⟨_, rfl, HU.out, HX2.out⟩
theorem i_shown (f : Fm) (v : Value) (w : World) (h : RdF 76 w f v) : Calls Tryd.prog 27 #[v] w (Ret w (.tuple #[.string (if (txt f).length ≤ 80 then strF f else ⟨#[]⟩), .bool (decide ((txt f).length ≤ 80))])) := by
  obtain ⟨b, va, vb, rfl, hb⟩ := h.head
  obtain ⟨k0, k1, k2, k3⟩ := blk4F hb
  have hs := strF_size f
  have HS := hd hs
  clear h hb hs
  generalize strF f = s at *
  by_cases h80 : (txt f).length ≤ 80
  · have hgt : ¬ (80 : Int) < (s.size : Int) := by rw [HS.out]; omega
    rw [if_pos h80, decide_eq_true h80]
    go_enter Tryd.func27, Tryd.ntmps27
    go_wp2
    go_ret2
    exact Ret.mk rfl
  · have hgt : (80 : Int) < (s.size : Int) := by rw [HS.out]; omega
    rw [if_neg h80, decide_eq_false h80]
    go_enter Tryd.func27, Tryd.ntmps27
    go_wp2
    go_ret2
    exact Ret.mk rfl
theorem i_parseV (s : ByteArray) (w : World) : Calls Tryd.prog 24 #[.string s] w (fun e w' => ∃ p : Option Addr, e = .returned (.tuple #[.pointer p, .bool (isF s)]) ∧ (∀ f, goodF s = some f → RdF 76 w' f (.pointer p)) ∧ Ext w w') := by
  cases hg : goodF s with
  | none =>
    refine (rp_no (i_parse s w) (hd hg)).mono ?_
    rintro e w' ⟨rfl, hx⟩
    exact ⟨none, by unfold isF; rw [hg]; rfl, fun f h => (by cases h), hx⟩
  | some f =>
    refine (rp_yes (i_parse s w) (hd hg)).mono ?_
    rintro e w' ⟨v, rfl, hv, hx⟩
    obtain ⟨b, _, _, rfl, _⟩ := hv.head
    exact ⟨some ⟨b, 0, none⟩, by unfold isF; rw [hg]; rfl, fun f2 h => (by cases h; exact hv), hx⟩
set_option maxHeartbeats 1600000 in
theorem i_CaseOf (k : Int) (a b c : ByteArray) (w : World) (hg : GlobS w) (_ : I64 k) (_ : a.size ≤ 1048576) (_ : b.size ≤ 1048576) (_ : c.size ≤ 1048576) :
    Calls Tryd.prog 7 #[.int .i64 k, .string a, .string b, .string c] w (RetX w (.tuple #[.string (caseV k a b c), .bool (caseOk k a b c)])) := by
  obtain ⟨q0, h0⟩ : ∃ q, inB k 1 10 = q := ⟨_, rfl⟩
  obtain ⟨qa, ha⟩ : ∃ q, isF a = q := ⟨_, rfl⟩
  obtain ⟨qb, hb⟩ : ∃ q, isF b = q := ⟨_, rfl⟩
  obtain ⟨qc, hc⟩ : ∃ q, isF c = q := ⟨_, rfl⟩
  have HA := hd ha
  have HB := hd hb
  have HC := hd hc
  have HO : Hid (caseOk k a b c = (q0 && (qa && (qb && (qc && decide ((caseL k.toNat a.data.toList b.data.toList c.data.toList).length ≤ 80)))))) := hd (by unfold caseOk; rw [h0, ha, hb, hc])
  have HI : Hid (∀ w', Calls Tryd.prog 25 #[.int .i64 k, .int .i64 1, .int .i64 10] w' (Ret w' (.bool q0))) := hd fun w' => by have := i_within k 1 10 w'; rw [h0] at this; exact this
  have HG := hd hg
  have HK := hd h0
  clear hg h0 ha hb hc
  go_enter Tryd.func7, Tryd.ntmps7
  go_wp2_with fail
  refine (i_parseV a _).mono ?_
  rw [HA.out]
  rintro e w1 ⟨p1, rfl, hf1, hx1⟩
  have HF1 := hd hf1
  have HX1 := hd hx1
  clear hf1 hx1
  go_wp2_with fail
  refine (i_parseV b _).mono ?_
  rw [HB.out]
  rintro e w2 ⟨p2, rfl, hf2, hx2⟩
  have HF2 := hd hf2
  have HX2 := hd hx2
  clear hf2 hx2
  go_wp2_with fail
  refine (i_parseV c _).mono ?_
  rw [HC.out]
  rintro e w3 ⟨p3, rfl, hf3, hx3⟩
  have HF3 := hd hf3
  have HX3 := hd hx3
  have HXX := hd ((HX1.out.trans HX2.out).trans HX3.out)
  clear hf3 hx3
  go_wp2_with fail
  refine (HI.out _).mono ?_
  rintro e w4 ⟨rfl, rfl⟩
  obtain ⟨qq, hqq⟩ : ∃ qq, (q0 && (qa && (qb && qc))) = qq := ⟨_, rfl⟩
  cases qq
  · have HF : Hid (caseOk k a b c = false) := hd (by rw [HO.out]; revert hqq; cases q0 <;> cases qa <;> cases qb <;> cases qc <;> simp)
    have HV := hd (caseV_no HF.out)
    have HQQ := hd hqq
    clear hqq HO HA HB HC HI HK HF1 HF2 HF3
    cases q0
    · go_wp2
      go_ret2
      exact RetX.mk (by rw [HV.out, HF.out]; rfl) HXX.out
    · cases qa
      · go_wp2
        go_ret2
        exact RetX.mk (by rw [HV.out, HF.out]; rfl) HXX.out
      · cases qb
        · go_wp2
          go_ret2
          exact RetX.mk (by rw [HV.out, HF.out]; rfl) HXX.out
        · cases qc
          · go_wp2
            go_ret2
            exact RetX.mk (by rw [HV.out, HF.out]; rfl) HXX.out
          · exact absurd HQQ.out (by decide)
  · obtain ⟨rfl, rfl, rfl, rfl⟩ : q0 = true ∧ qa = true ∧ qb = true ∧ qc = true := by revert hqq; cases q0 <;> cases qa <;> cases qb <;> cases qc <;> simp
    obtain ⟨j, hj, rfl⟩ := inB_succ HK.out
    obtain ⟨fa, ga, la, wa, sa⟩ := isF_fm HA.out
    obtain ⟨fb, gb, lb, wb, sb⟩ := isF_fm HB.out
    obtain ⟨fc, gc, lc, wc, sc⟩ := isF_fm HC.out
    have hkn : ((j : Int) + 1).toNat = j + 1 := by omega
    have HCO := hd (i_caseOf j hj fa fb fc p1 p2 p3 (by omega) (by omega) (by omega) w3 (HG.out.ext HXX.out) ((HF1.out _ ga).ext (HX2.out.trans HX3.out)) ((HF2.out _ gb).ext HX3.out) (fun _ => HF3.out _ gc))
    have HL : Hid (caseL (j + 1) a.data.toList b.data.toList c.data.toList = txt (putF fa fb fc (schT (j + 1)))) := hd (by rw [la, lb, lc, caseL_txt])
    have HVY := hd (caseV_yes (k := (j : Int) + 1) (a := a) (b := b) (c := c))
    have HVN := hd (caseV_no (k := (j : Int) + 1) (a := a) (b := b) (c := c))
    rw [hkn, HL.out] at HO HVY
    generalize putF fa fb fc (schT (j + 1)) = g at *
    clear hqq ga gb gc la lb lc wa wb wc sa sb sc HA HB HC HI HK HF1 HF2 HF3 HG HL
    go_wp2_with fail
    refine HCO.out.mono ?_
    rintro e w5 ⟨u, rfl, hu, hx5⟩
    have HX5 := hd (HXX.out.trans hx5)
    have HU := hd hu
    clear hu hx5
    go_wp2_with fail
    refine (i_shown g u _ HU.out).mono ?_
    by_cases h80 : (txt g).length ≤ 80
    · have HF : Hid (caseOk ((j : Int) + 1) a b c = true) := hd (by rw [HO.out, decide_eq_true h80]; rfl)
      have HV := hd (HVY.out HF.out)
      have HST : Hid ((⟨(txt g).toArray⟩ : ByteArray) = strF g) := hd rfl
      rw [if_pos h80, decide_eq_true h80]
      rintro e w6 ⟨rfl, rfl⟩
      generalize strF g = t at *
      go_wp2
      go_ret2
      exact RetX.mk (by rw [HV.out, HF.out, HST.out]; rfl) HX5.out
    · have HF : Hid (caseOk ((j : Int) + 1) a b c = false) := hd (by rw [HO.out, decide_eq_false h80]; rfl)
      have HV := hd (HVN.out HF.out)
      rw [if_neg h80, decide_eq_false h80]
      rintro e w6 ⟨rfl, rfl⟩
      go_wp2
      go_ret2
      exact RetX.mk (by rw [HV.out, HF.out]; rfl) HX5.out
end Go.Proofs.YtmfgcpeddfbngaaDoor
