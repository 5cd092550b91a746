/-
  Discharge, the program's side: is a step correct? Conditions: texts and lists up to 2^20; the program's table of schemes holds the schemes.
-/
import Derived.Test.YtapgpjhogdmjbaaDoorFrgJ
import Derived.Test.YtapgpjhogdmjbaaDoorIsFm
import Derived.Test.YtapgpjhogdmjbaaDoorQuietX
namespace Go.Proofs.YtapgpjhogdmjbaaDoor
open Go.RowKit Go.Sort
set_option maxRecDepth 100000 in
set_option maxHeartbeats 3200000 in
theorem i_fregeCorrect (gs : List (List UInt8)) (rs : List Rec) (k : Nat) (hk : k < rs.length) (v u : Value) (w : World) (hgb : GlobS w) (hv : Rd_StringS w v gs) (hu : RdRec w u rs) (hb : Bd_FregeStepS rs) (hgl : gs.length ≤ 1048576) :
    Calls Tryd.prog 47 #[v, u, .int .i64 k] w (RetX w (.bool (corI gs rs k rs[k]))) := by
  obtain ⟨A, c, rfl, h1, h2, ha⟩ := hv.form
  obtain ⟨B, d, rfl, g1, g2, gb⟩ := hu.form
  obtain ⟨bb, rfl, d0, d1, d2, d3⟩ := RdRec.at_ gb hk
  obtain ⟨r, hr⟩ : ∃ r, rs[k] = r := ⟨_, rfl⟩
  rw [hr] at d0 d1 d2 d3 ⊢
  obtain ⟨nm, sy, sz, ex⟩ := r
  dsimp only at d0 d1 d2 d3
  have hkl : (k : Int) < (rs.length : Int) := by omega
  have hb1 := hb.1
  have HBD := hd hb.2
  have hns : nm.size ≤ 1048576 := by have := hb.2 _ (List.getElem_mem hk); rw [hr] at this; exact this
  have HC : Hid (corI gs rs k ⟨nm, sy, sz, ex⟩ = (isF nm && (if inB sy 1 10 then caseB ⟨nm, sy, sz, ex⟩ else if sy = 0 then givB gs ⟨nm, sy, sz, ex⟩ else if sy = -1 then modI rs k ⟨nm, sy, sz, ex⟩ else false))) := hd rfl
  have HGB := hd hgb
  have HGN : Hid ((∃ y, goodF nm = some y) → isF nm = true) := hd (by rintro ⟨y, hy⟩; unfold isF; rw [hy]; rfl)
  clear hv hu hr hb hgb
  generalize corI gs rs k ⟨nm, sy, sz, ex⟩ = res at *
  have hn := heap_alloc_new w (.cells #[.string nm, .int .i64 sy, .int .i64 sz, .int .i64 ex] 42)
  obtain ⟨k0, k1, k2, k3⟩ := blk4F hn
  have HN := hd hn
  clear hn
  go_enter Tryd.func47, Tryd.ntmps47
  cases hg : goodF nm with
  | none =>
    have hq : isF nm = false := by unfold isF; rw [hg]; rfl
    rw [hq] at HC
    have HGG := hd hg
    clear hq hg
    go_wp2_with fail
    refine (rp_no (i_parse nm _) HGG).mono ?_
    rintro e w1 ⟨rfl, hx⟩
    have X1 := hd ((Ext.new w _).trans hx)
    clear hx k0 k1 k2 k3
    go_wp2
    go_ret
    exact RetX.mk (by rw [HC.out]; rfl) X1.out
  | some y =>
    rw [HGN.out ⟨y, hg⟩] at HC
    have HGG := hd hg
    go_wp2_with fail
    refine (rp_yes (i_parse nm _) HGG).mono ?_
    rintro e w1 ⟨vy, rfl, hvy, hx⟩
    have X1 := hd ((Ext.new w _).trans hx)
    obtain ⟨c0, c1, c2, c3⟩ := blk4F (hx.heap HN.out)
    have HY := hd hvy
    obtain ⟨by_, _, _, rfl, _⟩ := hvy.head
    generalize w.heap.size = bx at *
    clear hx k0 k1 k2 k3 HN hvy d0 d1 d2 d3
    have HSC := hd (i_within sy 1 10)
    go_wp2_with fail
    refine (HSC.out _).mono ?_
    rintro e w2 ⟨rfl, rfl⟩
    cases hin : inB sy 1 10 with
    | true =>
      obtain ⟨j, hj, rfl⟩ := inB_succ hin
      have HIS := hd (i_isCase j hj y (goodF_iff.1 hg).2.2 _ w1 (HGB.out.ext X1.out) HY.out)
      have HCB : Hid (caseB ⟨nm, (j : Int) + 1, sz, ex⟩ = (sz == 0 && (ex == 0 && isC (j + 1) y))) := hd (by unfold caseB; rw [hg]; rfl)
      rw [hin, if_pos rfl, HCB.out] at HC
      clear hg hin HCB HSC
      by_cases e1 : sz = 0
      · subst e1
        by_cases e2 : ex = 0
        · subst e2
          go_wp2_with fail
          refine (HIS.out).mono ?_
          rintro e w2 ⟨rfl, hx⟩
          have X2 := hd (X1.out.trans hx)
          clear hx
          go_wp2
          go_ret
          exact RetX.mk (by rw [HC.out]; rfl) X2.out
        · have e3 : (ex == 0) = false := by simpa using e2
          rw [e3] at HC
          go_wp2
          go_ret
          exact RetX.mk (by rw [HC.out]; rfl) X1.out
      · have e3 : (sz == 0) = false := by simpa using e1
        rw [e3] at HC
        go_wp2
        go_ret
        exact RetX.mk (by rw [HC.out]; rfl) X1.out
    | false =>
      rw [hin, if_neg (by decide)] at HC
      clear hin hg HSC
      by_cases z0 : sy = 0
      · subst z0
        rw [if_pos rfl] at HC
        have HGV : Hid (givB gs ⟨nm, 0, sz, ex⟩ = (ex == 0 && (inB sz 0 (gs.length - 1) && decide (gs.getD sz.toNat [] = nm.data.toList)))) := hd rfl
        rw [HGV.out] at HC
        clear HGV
        cases hi : inB sz 0 ((gs.length : Int) - 1) with
        | true =>
          by_cases e1 : ex = 0
          · subst e1
            obtain ⟨i, hi1, rfl⟩ : ∃ i : Nat, i < gs.length ∧ sz = (i : Int) := by rw [inB_iff] at hi; exact ⟨sz.toNat, by omega, by omega⟩
            have HI : Hid (∀ w', Calls Tryd.prog 22 #[.int .i64 (i : Int), .int .i64 0, .int .i64 ((gs.length : Int) - 1)] w' (Ret w' (.bool true))) := hd fun w' => by rw [← hi]; exact i_within _ _ _ w'
            obtain ⟨a, rfl, hc0⟩ := Rd_StringS.at_ ha hi1
            have hc := X1.out.cell hc0
            have hil : (i : Int) < (gs.length : Int) := by omega
            have hi0 : (0 : Int) ≤ (i : Int) := by omega
            have HE : Hid (gs.getD (i : Int).toNat [] = gs[i]) := hd (by simp [List.getD_eq_getElem?_getD, hi1])
            rw [hi, HE.out] at HC
            clear hc0 hi HE
            generalize gs[i] = y2 at *
            have HQ : Hid ((y2 == nm.toList) = decide (y2 = nm.data.toList)) := hd (by rw [Lib.toList_data, Bool.eq_iff_iff]; simp)
            go_wp2_with fail
            go_big_quiet ((go_at_call 22; with_reducible exact q_same (HI.out _)))
            go_wp2
            go_ret
            exact RetX.mk (by rw [HC.out, ← HQ.out]; rfl) (X1.out.trans (ext_drewN _ _))
          · have e3 : (ex == 0) = false := by simpa using e1
            rw [e3] at HC
            have HI : Hid (∀ w', Calls Tryd.prog 22 #[.int .i64 sz, .int .i64 0, .int .i64 ((gs.length : Int) - 1)] w' (Ret w' (.bool true))) := hd fun w' => by rw [← hi]; exact i_within _ _ _ w'
            clear hi
            go_wp2_with fail
            go_big_quiet ((go_at_call 22; with_reducible exact q_same (HI.out _)))
            go_wp2
            go_ret
            exact RetX.mk (by rw [HC.out]; rfl) (X1.out.trans (ext_drewN _ _))
        | false =>
          have HI : Hid (∀ w', Calls Tryd.prog 22 #[.int .i64 sz, .int .i64 0, .int .i64 ((gs.length : Int) - 1)] w' (Ret w' (.bool false))) := hd fun w' => by rw [← hi]; exact i_within _ _ _ w'
          rw [hi, Bool.false_and, Bool.and_false] at HC
          clear hi
          go_wp2_with fail
          go_big_quiet ((go_at_call 22; with_reducible exact q_same (HI.out _)))
          go_wp2
          go_ret
          exact RetX.mk (by rw [HC.out]; rfl) (X1.out.trans (ext_drewN _ _))
      · rw [if_neg z0] at HC
        have z1 : (sy == 0) = false := by simpa using z0
        by_cases z2 : sy = -1
        · subst z2
          rw [if_pos rfl] at HC
          have HMS : Hid (modI rs k ⟨nm, -1, sz, ex⟩ = (inB sz 0 (k - 1) && (inB ex 0 (k - 1) && (isF (recAt rs sz) && (isF (recAt rs ex) && decide ((recAt rs ex).data.toList = (impB (recAt rs sz) nm).data.toList)))))) := hd rfl
          rw [HMS.out] at HC
          clear HMS
          cases hi : inB sz 0 ((k : Int) - 1) with
          | true =>
            have HI : Hid (∀ w', Calls Tryd.prog 22 #[.int .i64 sz, .int .i64 0, .int .i64 ((k : Int) - 1)] w' (Ret w' (.bool true))) := hd fun w' => by rw [← hi]; exact i_within _ _ _ w'
            cases hj : inB ex 0 ((k : Int) - 1) with
            | true =>
              have HJ : Hid (∀ w', Calls Tryd.prog 22 #[.int .i64 ex, .int .i64 0, .int .i64 ((k : Int) - 1)] w' (Ret w' (.bool true))) := hd fun w' => by rw [← hj]; exact i_within _ _ _ w'
              obtain ⟨i1, a1, b1, rfl, f1⟩ := recAt_get hi (Nat.le_of_lt hk)
              obtain ⟨i2, a2, b2, rfl, f2⟩ := recAt_get hj (Nat.le_of_lt hk)
              obtain ⟨p1, e1, m0, -, -, -⟩ := RdRec.at_ gb a1
              obtain ⟨p2, e2, m1, -, -, -⟩ := RdRec.at_ gb a2
              injection e1 with e1
              injection e2 with e2
              subst e1
              subst e2
              have n0 := X1.out.cell m0
              have n1 := X1.out.cell m1
              have s1 : rs[i1].name.size ≤ 1048576 := HBD.out _ (List.getElem_mem a1)
              have i1l : (i1 : Int) < (rs.length : Int) := by omega
              have i2l : (i2 : Int) < (rs.length : Int) := by omega
              rw [hi, hj, f1, f2] at HC
              clear hi hj f1 f2 m0 m1
              generalize rs[i1].name = x1 at *
              generalize rs[i2].name = x2 at *
              have HQ : Hid ((x2.toList == (impB x1 nm).toList) = decide (x2.data.toList = (impB x1 nm).data.toList)) := hd (by rw [Lib.toList_data, Lib.toList_data, Bool.eq_iff_iff]; simp)
              have HIMP : Hid (impB x1 nm = ⟨#[40]⟩ ++ x1 ++ ⟨#[62]⟩ ++ nm ++ ⟨#[41]⟩) := hd rfl
              rw [HIMP.out] at HQ HC
              clear HIMP
              have r1 : ¬ 9223372036854775807 < 1 + x1.size := by omega
              have r2 : ¬ 9223372036854775807 < 1 + x1.size + 1 := by omega
              have r3 : ¬ 9223372036854775807 < 1 + x1.size + 1 + nm.size := by omega
              have r4 : ¬ 9223372036854775807 < 1 + x1.size + 1 + nm.size + 1 := by omega
              obtain ⟨t1, ht1⟩ : ∃ t, isF x1 = t := ⟨_, rfl⟩
              obtain ⟨t2, ht2⟩ : ∃ t, isF x2 = t := ⟨_, rfl⟩
              have HF1 : Hid (∀ w', Calls Tryd.prog 46 #[.string x1] w' (RetX w' (.bool t1))) := hd fun w' => by rw [← ht1]; exact i_IsFormula x1 w'
              have HF2 : Hid (∀ w', Calls Tryd.prog 46 #[.string x2] w' (RetX w' (.bool t2))) := hd fun w' => by rw [← ht2]; exact i_IsFormula x2 w'
              rw [ht1, ht2] at HC
              clear ht1 ht2
              go_wp2_with fail
              refine (HI.out _).mono ?_
              rintro e w2 ⟨rfl, rfl⟩
              go_wp2_with fail
              refine (HJ.out _).mono ?_
              rintro e w2 ⟨rfl, rfl⟩
              have X2 := X1
              have P0 : ∀ p : ExtOf w1, p.v.cell? ⟨bx, 0, none⟩ = _ := fun p => p.h.cell c0
              have P3 : ∀ p : ExtOf w1, p.v.cell? ⟨bx, 3, none⟩ = _ := fun p => p.h.cell c3
              have PN : ∀ p : ExtOf w1, p.v.cell? (bb.add (i2 * 4)) = _ := fun p => p.h.cell n1
              clear HI HJ
              cases t1
              · go_wp2_with fail
                refine wp_region_quiet_ext (by kernel_rfl) (by kernel_rfl) ?_
                repeat (go_big_quiet_step ((go_at_call 46; first | (with_reducible exact ext_call (HF1.out _)) | (with_reducible exact ext_call (HF2.out _)))))
                refine wpQuiet_nil ?_
                rintro _ ⟨⟨w3, hx3⟩, rfl⟩
                go_wp2
                go_ret
                exact RetX.mk (by rw [HC.out]; rfl) (X2.out.trans hx3)
              · cases t2
                · go_wp2_with fail
                  refine wp_region_quiet_ext (by kernel_rfl) (by kernel_rfl) ?_
                  repeat (go_big_quiet_step ((go_at_call 46; first | (with_reducible exact ext_call (HF1.out _)) | (with_reducible exact ext_call (HF2.out _)))))
                  refine wpQuiet_nil ?_
                  rintro _ ⟨⟨w3, hx3⟩, rfl⟩
                  go_wp2
                  go_ret
                  exact RetX.mk (by rw [HC.out]; rfl) (X2.out.trans hx3)
                · go_wp2_with fail
                  refine wp_region_quiet_ext (by kernel_rfl) (by kernel_rfl) ?_
                  repeat (go_big_quiet_step ((go_at_call 46; first | (with_reducible exact ext_call (HF1.out _)) | (with_reducible exact ext_call (HF2.out _)))))
                  refine wpQuiet_nil ?_
                  rintro _ ⟨⟨w3, hx3⟩, rfl⟩
                  go_wp2
                  go_ret
                  exact RetX.mk (by rw [HC.out, ← HQ.out]; rfl) (X2.out.trans hx3)
            | false =>
              have HJ : Hid (∀ w', Calls Tryd.prog 22 #[.int .i64 ex, .int .i64 0, .int .i64 ((k : Int) - 1)] w' (Ret w' (.bool false))) := hd fun w' => by rw [← hj]; exact i_within _ _ _ w'
              rw [hi, hj] at HC
              clear hi hj
              go_wp2_with fail
              refine (HI.out _).mono ?_
              rintro e w2 ⟨rfl, rfl⟩
              go_wp2_with fail
              refine (HJ.out _).mono ?_
              rintro e w2 ⟨rfl, rfl⟩
              go_wp2
              go_ret
              exact RetX.mk (by rw [HC.out]; rfl) X1.out
          | false =>
            have HI : Hid (∀ w', Calls Tryd.prog 22 #[.int .i64 sz, .int .i64 0, .int .i64 ((k : Int) - 1)] w' (Ret w' (.bool false))) := hd fun w' => by rw [← hi]; exact i_within _ _ _ w'
            rw [hi] at HC
            clear hi
            go_wp2_with fail
            refine (HI.out _).mono ?_
            rintro e w2 ⟨rfl, rfl⟩
            go_wp2
            go_ret
            exact RetX.mk (by rw [HC.out]; rfl) X1.out
        · rw [if_neg z2] at HC
          have z3 : (sy != -1) = true := by simpa using z2
          go_wp2
          go_ret
          exact RetX.mk (by rw [HC.out]; rfl) X1.out
end Go.Proofs.YtapgpjhogdmjbaaDoor
