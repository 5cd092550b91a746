/-
  Discharge, the reference: is a step correct? Conditions: texts and lists up to 2^20.
-/
import Derived.Test.YtapgpjhogdmjbaaDoorFrgT
import Derived.Test.YtapgpjhogdmjbaaDoorC1
import Derived.BigQuiet
namespace Go.Proofs.YtapgpjhogdmjbaaDoor
open Go.RowKit Go.Sort
set_option maxRecDepth 100000 in
set_option maxHeartbeats 3200000 in
theorem s_l24Correct (gs : List (List UInt8)) (rs : List Rec) (k : Nat) (hk : k < rs.length) (v u : Value) (w : World) (hv : Rd_StringS w v gs) (hu : RdRec w u rs) (hb : Bd_FregeStepS rs) (hgl : gs.length ≤ 1048576) :
    Calls Tryd.prog 42 #[v, u, .int .i64 k] w (RetX w (.bool (corS gs rs k rs[k]))) := by
  obtain ⟨A, c, rfl, h1, h2, ha⟩ := hv.form
  obtain ⟨B, d, rfl, g1, g2, gb⟩ := hu.form
  obtain ⟨bb, rfl, d0, d1, d2, d3⟩ := RdRec.at_ gb hk
  obtain ⟨r, hr⟩ : ∃ r, rs[k] = r := ⟨_, rfl⟩
  rw [hr] at d0 d1 d2 d3 ⊢
  obtain ⟨nm, sy, sz, ex⟩ := r
  dsimp only at d0 d1 d2 d3
  have hkl : (k : Int) < (rs.length : Int) := by omega
  have hb1 := hb.1
  have HBD := hd hb.2
  have hns : nm.size ≤ 1048576 := by have := hb.2 _ (List.getElem_mem hk); rw [hr] at this; exact this
  have HC : Hid (corS gs rs k ⟨nm, sy, sz, ex⟩ = (isF nm && (if inB sy 1 10 then caseB ⟨nm, sy, sz, ex⟩ else if sy = 0 then givB gs ⟨nm, sy, sz, ex⟩ else if sy = -1 then modS rs k ⟨nm, sy, sz, ex⟩ else false))) := hd rfl
  have HG := hd (fun (s : ByteArray) (w : World) => s_l22Good s w)
  clear hv hu hr hb
  generalize corS gs rs k ⟨nm, sy, sz, ex⟩ = res at *
  go_enter Tryd.func42, Tryd.ntmps42
  go_wp2_with fail
  refine (HG.out _ _).mono ?_
  rintro e w1 ⟨rfl, rfl⟩
  have hn := heap_alloc_new w (.cells #[.string nm, .int .i64 sy, .int .i64 sz, .int .i64 ex] 42)
  have c0 : (w.alloc (.cells #[.string nm, .int .i64 sy, .int .i64 sz, .int .i64 ex] 42)).cell? ⟨w.heap.size, 0, none⟩ = some (.string nm) := World.news_of_block hn 0 _ rfl
  have c1 : (w.alloc (.cells #[.string nm, .int .i64 sy, .int .i64 sz, .int .i64 ex] 42)).cell? ⟨w.heap.size, 1, none⟩ = some (.int .i64 sy) := World.news_of_block hn 1 _ rfl
  have c2 : (w.alloc (.cells #[.string nm, .int .i64 sy, .int .i64 sz, .int .i64 ex] 42)).cell? ⟨w.heap.size, 2, none⟩ = some (.int .i64 sz) := World.news_of_block hn 2 _ rfl
  have c3 : (w.alloc (.cells #[.string nm, .int .i64 sy, .int .i64 sz, .int .i64 ex] 42)).cell? ⟨w.heap.size, 3, none⟩ = some (.int .i64 ex) := World.news_of_block hn 3 _ rfl
  have X1 : Hid (Ext w (w.alloc (.cells #[.string nm, .int .i64 sy, .int .i64 sz, .int .i64 ex] 42))) := hd (Ext.new _ _)
  generalize w.alloc (.cells #[.string nm, .int .i64 sy, .int .i64 sz, .int .i64 ex] 42) = W1 at *
  generalize w.heap.size = bx at *
  clear hn d0 d1 d2 d3 HG
  cases hg : goodF nm with
  | none =>
    have hq : isF nm = false := by unfold isF; rw [hg]; rfl
    rw [hq] at HC ⊢
    clear hq hg
    go_wp2
    go_ret
    exact RetX.mk (by rw [HC.out]; rfl) X1.out
  | some y =>
    have hq : isF nm = true := by unfold isF; rw [hg]; rfl
    rw [hq] at HC ⊢
    clear hq
    go_wp2_with fail
    refine (s_l24Scheme sy _).mono ?_
    rintro e w1 ⟨rfl, rfl⟩
    cases hin : inB sy 1 10 with
    | true =>
      obtain ⟨j, hj, rfl⟩ := inB_succ hin
      have hnm := strF_of (goodF_iff.1 hg).2.1
      have HIS := hd (fun w' => s_l24Is j hj y (goodF_iff.1 hg).2.2 (by have := (goodF_iff.1 hg).1; rw [hnm, strF_size] at this; exact this) w')
      rw [← hnm] at HIS
      have HCB : Hid (caseB ⟨nm, (j : Int) + 1, sz, ex⟩ = (sz == 0 && (ex == 0 && isC (j + 1) y))) := hd (by unfold caseB; rw [hg]; rfl)
      rw [hin, if_pos rfl, HCB.out] at HC
      clear hnm hg hin HCB
      by_cases e1 : sz = 0
      · subst e1
        by_cases e2 : ex = 0
        · subst e2
          go_wp2_with fail
          refine (HIS.out _).mono ?_
          rintro e w2 ⟨rfl, hx⟩
          have X2 := hd (X1.out.trans hx)
          clear hx
          go_wp2
          go_ret
          exact RetX.mk (by rw [HC.out]; rfl) X2.out
        · have e3 : (ex == 0) = false := by simpa using e2
          rw [e3] at HC
          go_wp2
          go_ret
          exact RetX.mk (by rw [HC.out]; rfl) X1.out
      · have e3 : (sz == 0) = false := by simpa using e1
        rw [e3] at HC
        go_wp2
        go_ret
        exact RetX.mk (by rw [HC.out]; rfl) X1.out
    | false =>
      rw [hin, if_neg (by decide)] at HC
      clear hin hg
      by_cases z0 : sy = 0
      · subst z0
        rw [if_pos rfl] at HC
        have HGV : Hid (givB gs ⟨nm, 0, sz, ex⟩ = (ex == 0 && (inB sz 0 (gs.length - 1) && decide (gs.getD sz.toNat [] = nm.data.toList)))) := hd rfl
        rw [HGV.out] at HC
        clear HGV
        by_cases e1 : ex = 0
        · subst e1
          cases hi : inB sz 0 ((gs.length : Int) - 1) with
          | true =>
            obtain ⟨i, hi1, rfl⟩ : ∃ i : Nat, i < gs.length ∧ sz = (i : Int) := by rw [inB_iff] at hi; exact ⟨sz.toNat, by omega, by omega⟩
            have HI : Hid (∀ w', Calls Tryd.prog 17 #[.int .i64 (i : Int), .int .i64 0, .int .i64 ((gs.length : Int) - 1)] w' (Ret w' (.bool true))) := hd fun w' => by rw [← hi]; exact s_l1In _ _ _ w'
            obtain ⟨a, rfl, hc0⟩ := Rd_StringS.at_ ha hi1
            have hc := X1.out.cell hc0
            have hil : (i : Int) < (gs.length : Int) := by omega
            have hi0 : (0 : Int) ≤ (i : Int) := by omega
            have HE : Hid (gs.getD (i : Int).toNat [] = gs[i]) := hd (by simp [List.getD_eq_getElem?_getD, hi1])
            rw [hi, HE.out] at HC
            clear hc0 hi HE
            generalize gs[i] = y2 at *
            have HQ : Hid ((y2 == nm.toList) = decide (y2 = nm.data.toList)) := hd (by rw [Lib.toList_data, Bool.eq_iff_iff]; simp)
            go_wp2_with fail
            go_big_quiet ((go_at_call 17; exact q_same (HI.out _)))
            go_wp2
            go_ret
            exact RetX.mk (by rw [HC.out, ← HQ.out]; rfl) (X1.out.trans (ext_drewN _ _))
          | false =>
            have HI : Hid (∀ w', Calls Tryd.prog 17 #[.int .i64 sz, .int .i64 0, .int .i64 ((gs.length : Int) - 1)] w' (Ret w' (.bool false))) := hd fun w' => by rw [← hi]; exact s_l1In _ _ _ w'
            rw [hi] at HC
            clear hi
            go_wp2_with fail
            go_big_quiet ((go_at_call 17; exact q_same (HI.out _)))
            go_wp2
            go_ret
            exact RetX.mk (by rw [HC.out]; rfl) (X1.out.trans (ext_drewN _ _))
        · have e3 : (ex == 0) = false := by simpa using e1
          rw [e3] at HC
          go_wp2_with fail
          go_big_quiet (fail)
          go_wp2
          go_ret
          exact RetX.mk (by rw [HC.out]; rfl) (X1.out.trans (ext_drewN _ _))
      · rw [if_neg z0] at HC
        have z1 : (sy == 0) = false := by simpa using z0
        by_cases z2 : sy = -1
        · subst z2
          rw [if_pos rfl] at HC
          have HMS : Hid (modS rs k ⟨nm, -1, sz, ex⟩ = (inB sz 0 (k - 1) && (inB ex 0 (k - 1) && decide ((recAt rs ex).data.toList = (impB (recAt rs sz) nm).data.toList)))) := hd rfl
          rw [HMS.out] at HC
          clear HMS
          cases hi : inB sz 0 ((k : Int) - 1) with
          | true =>
            have HI : Hid (∀ w', Calls Tryd.prog 17 #[.int .i64 sz, .int .i64 0, .int .i64 ((k : Int) - 1)] w' (Ret w' (.bool true))) := hd fun w' => by rw [← hi]; exact s_l1In _ _ _ w'
            cases hj : inB ex 0 ((k : Int) - 1) with
            | true =>
              have HJ : Hid (∀ w', Calls Tryd.prog 17 #[.int .i64 ex, .int .i64 0, .int .i64 ((k : Int) - 1)] w' (Ret w' (.bool true))) := hd fun w' => by rw [← hj]; exact s_l1In _ _ _ w'
              obtain ⟨i1, a1, b1, rfl, f1⟩ := recAt_get hi (Nat.le_of_lt hk)
              obtain ⟨i2, a2, b2, rfl, f2⟩ := recAt_get hj (Nat.le_of_lt hk)
              obtain ⟨p1, e1, m0, -, -, -⟩ := RdRec.at_ gb a1
              obtain ⟨p2, e2, m1, -, -, -⟩ := RdRec.at_ gb a2
              injection e1 with e1
              injection e2 with e2
              subst e1
              subst e2
              have n0 := X1.out.cell m0
              have n1 := X1.out.cell m1
              have s1 : rs[i1].name.size ≤ 1048576 := HBD.out _ (List.getElem_mem a1)
              have i1l : (i1 : Int) < (rs.length : Int) := by omega
              have i2l : (i2 : Int) < (rs.length : Int) := by omega
              rw [hi, hj, f1, f2] at HC
              clear hi hj f1 f2 m0 m1
              generalize rs[i1].name = x1 at *
              generalize rs[i2].name = x2 at *
              have HIM := hd (fun w' => s_impB x1 nm w' s1 hns)
              have HQ : Hid ((x2.toList == (impB x1 nm).toList) = decide (x2.data.toList = (impB x1 nm).data.toList)) := hd (by rw [Lib.toList_data, Lib.toList_data, Bool.eq_iff_iff]; simp)
              generalize impB x1 nm = im at *
              go_wp2_with fail
              go_big_quiet ((first
                | (go_at_call 17; first | (with_reducible exact q_same (HI.out _)) | (with_reducible exact q_same (HJ.out _)))
                | (go_at_call 36; with_reducible exact q_same (HIM.out _))))
              go_wp2
              go_ret
              exact RetX.mk (by rw [HC.out, ← HQ.out]; rfl) (X1.out.trans (ext_drewN _ _))
            | false =>
              have HJ : Hid (∀ w', Calls Tryd.prog 17 #[.int .i64 ex, .int .i64 0, .int .i64 ((k : Int) - 1)] w' (Ret w' (.bool false))) := hd fun w' => by rw [← hj]; exact s_l1In _ _ _ w'
              rw [hi, hj] at HC
              clear hi hj
              go_wp2_with fail
              go_big_quiet ((go_at_call 17; first | (with_reducible exact q_same (HI.out _)) | (with_reducible exact q_same (HJ.out _))))
              go_wp2
              go_ret
              exact RetX.mk (by rw [HC.out]; rfl) (X1.out.trans (ext_drewN _ _))
          | false =>
            have HI : Hid (∀ w', Calls Tryd.prog 17 #[.int .i64 sz, .int .i64 0, .int .i64 ((k : Int) - 1)] w' (Ret w' (.bool false))) := hd fun w' => by rw [← hi]; exact s_l1In _ _ _ w'
            rw [hi] at HC
            clear hi
            go_wp2_with fail
            go_big_quiet ((go_at_call 17; exact q_same (HI.out _)))
            go_wp2
            go_ret
            exact RetX.mk (by rw [HC.out]; rfl) (X1.out.trans (ext_drewN _ _))
        · rw [if_neg z2] at HC
          have z3 : (sy == -1) = false := by simpa using z2
          go_wp2
          go_ret
          exact RetX.mk (by rw [HC.out]; rfl) X1.out
end Go.Proofs.YtapgpjhogdmjbaaDoor
