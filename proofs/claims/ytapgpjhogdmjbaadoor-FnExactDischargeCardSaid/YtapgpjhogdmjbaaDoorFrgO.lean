/-
  Discharge, the program's side: the walk. Conditions: texts and lists up to 2^20; the program's table of schemes holds the schemes.
-/
import Derived.Test.YtapgpjhogdmjbaaDoorFrgN
namespace Go.Proofs.YtapgpjhogdmjbaaDoor
open Go.RowKit Go.Sort
set_option maxRecDepth 100000 in
set_option maxHeartbeats 6400000 in
theorem i_Discharge (gs : List (List UInt8)) (v : Value) (rs : List Rec) (u : Value) (i : Int) (w : World) (hgb : GlobS w) (hv : Rd_StringS w v gs) (hb : Bd_StringS gs) (_ : I64_StringS gs) (hu : Rd_FregeStepS w u rs) (hb2 : Bd_FregeStepS rs) (_ : I64_FregeStepS rs) (hii : I64 i) :
    Calls Tryd.prog 9 #[v, u, .int .i64 i] w (RetF2 w (disV gs rs i) (disOk gs rs i)) := by
  have hgl : gs.length ≤ 1048576 := hb
  have HG := hd (i_fregeProofR gs rs v u w hgb hv hu.1 hb2 hgl)
  have HB : Hid (disB gs rs i = (prfS gs rs && inB i 0 ((gs.length : Int) - 1))) := hd rfl
  have HO : Hid (disOk gs rs i = (disB gs rs i && giveF (disR gs rs i))) := hd rfl
  have HV : Hid (disV gs rs i = if disOk gs rs i then disR gs rs i else []) := hd rfl
  have HIN := hd (fun w' => i_within i 0 ((gs.length : Int) - 1) w')
  have HGB := hd hgb
  obtain ⟨A, c, rfl, h1, h2, ha⟩ := hv.form
  obtain ⟨B, d, rfl, g1, g2, gb'⟩ := hu.form
  have gb : Hid (RdRec w (.slice B rs.length d) rs) := gb'
  have hbl := hb2.1
  clear hv hu hb hb2 hgb gb'
  obtain ⟨q, hq⟩ : ∃ q, prfS gs rs = q := ⟨_, rfl⟩
  have HPF := hd hq
  rw [hq] at HG HB
  clear hq
  cases q
  · have HF : Hid (disOk gs rs i = false) := hd (by rw [HO.out, HB.out]; rfl)
    rw [HF.out] at HV
    go_enter Tryd.func9, Tryd.ntmps9
    go_wp2_with fail
    refine HG.out.mono ?_
    rintro e w1 ⟨rfl, hx1⟩
    have HX1 := hd hx1
    clear hx1
    go_wp2
    go_ret2
    exact ⟨_, by rw [HF.out]; rfl, by rw [HV.out]; exact ⟨own_nil _ _ _ _, (fun b e => by cases e), fun r hr => by cases hr⟩, HX1.out⟩
  · obtain ⟨q2, hq2⟩ : ∃ q, inB i 0 ((gs.length : Int) - 1) = q := ⟨_, rfl⟩
    have HQ2 := hd hq2
    rw [hq2] at HB HIN
    clear hq2
    cases q2
    · have HF : Hid (disOk gs rs i = false) := hd (by rw [HO.out, HB.out]; rfl)
      rw [HF.out] at HV
      go_enter Tryd.func9, Tryd.ntmps9
      go_wp2_with fail
      refine HG.out.mono ?_
      rintro e w1 ⟨rfl, hx1⟩
      have HX1 := hd hx1
      clear hx1
      go_wp2_with fail
      refine (HIN.out _).mono ?_
      rintro e w2 ⟨rfl, rfl⟩
      go_wp2
      go_ret2
      exact ⟨_, by rw [HF.out]; rfl, by rw [HV.out]; exact ⟨own_nil _ _ _ _, (fun b e => by cases e), fun r hr => by cases hr⟩, HX1.out⟩
    · have hib := inB_iff.1 HQ2.out
      have HOK : Hid (disOk gs rs i = giveF (disR gs rs i)) := hd (by rw [HO.out, HB.out]; rfl)
      rw [HOK.out] at HV
      obtain ⟨iN, hiN, rfl⟩ : ∃ j : Nat, j < gs.length ∧ i = (j : Int) := ⟨i.toNat, by omega, by omega⟩
      obtain ⟨T, ht1, ht2, ht3, ht4⟩ := prf_given HPF.out hiN
      obtain ⟨hl1, hl2⟩ := prf_len HPF.out
      have HDR : Hid (disR gs rs iN = (disK T iN rs rs.length).1) := hd (by
        unfold disR
        rw [show (gs.getD (iN : Int).toNat []) = gs[iN] by simp [List.getD_eq_getElem?_getD, hiN], treeOf_eq ht2])
      have HST : Hid (∀ k, ∀ h : k < rs.length, _) := hd fun k h => prf_step HPF.out h
      obtain ⟨a, rfl, hc0⟩ := Rd_StringS.at_ ha hiN
      have HGT := hd ht2
      have HTL := hd ht4
      have hil : (iN : Int) < (gs.length : Int) := by omega
      have HS : Hid (∀ r ∈ disR gs rs iN, giveF (disR gs rs iN) = true → r.name.size ≤ 9223372036854775807) := hd fun r hr hgv => by have := (giveF_yes hgv).2 r hr; omega
      clear ht1 ht2 ht3 ht4 ha HB HO HPF
      generalize (⟨gs[iN].toArray⟩ : ByteArray) = sT at *
      go_enter Tryd.func9, Tryd.ntmps9
      go_wp2_with fail
      refine HG.out.mono ?_
      rintro e w1 ⟨rfl, hx1⟩
      have HX1 := hd hx1
      have hc1 := hx1.cell hc0
      clear hx1 hc0
      go_wp2_with fail
      refine (HIN.out _).mono ?_
      rintro e w2 ⟨rfl, rfl⟩
      go_wp2_with fail
      refine (rp_yes (i_parse sT _) HGT).mono ?_
      rintro e w2 ⟨vT, rfl, hvT, hx2⟩
      obtain ⟨bT, _, _, rfl, _⟩ := hvT.head
      have HX2 := hd (HX1.out.trans hx2)
      have HD0 : Hid (DisI w (w2.alloc (.cells #[.slice none 0 0, .bool false] 49)) w2.heap.size T (some ⟨bT, 0, none⟩) (.slice none 0 0) [] (.slice none 0 0) []) :=
        hd ⟨HX2.out.alloc _, ⟨heap_alloc_new w2 _, own_nil _ _ _ _⟩, own_nil _ _ _ _, hvT.ext (Ext.new _ _), HX2.out.size⟩
      clear hvT hx2 hc1 HIN HG HGT HX1 h1 h2
      go_wp2
      generalize w2.heap.size = bx at *
      generalize w2.alloc (.cells #[.slice none 0 0, .bool false] 49) = w3 at *
      go_loopw [46, 11] (fun j u wr => ∃ (k : Nat) (sv : Value), k ≤ rs.length ∧ j = .int .i64 k ∧ DisI w wr bx T (some ⟨bT, 0, none⟩) sv (disK T iN rs k).1 u (disK T iN rs k).2) (fun j _ _ => rs.length - (intOf j).toNat)
      case atStart => exact ⟨0, _, by omega, rfl, HD0.out⟩
      case round =>
        clear HD0
        obtain ⟨k, sv, hk, rfl, hD⟩ := hrel
        have HD := hd hD
        clear hD
        obtain ⟨hkl, hkn⟩ := disK_len (A := T) (i := iN) (rs := rs) k hk
        by_cases hlt : k < rs.length
        · have HDK := hd (disK_step (A := T) (i := iN) hlt)
          obtain ⟨y, s1, s2, s3, s4, s5⟩ := HST.out k hlt
          have hty := treeOf_eq s2
          have HRJ : Hid (∀ j : Nat, ∀ h : j < rs.length, recAt rs (j : Int) = rs[j].name) := hd fun j h => by unfold recAt; rw [show ((j : Int).toNat) = j from rfl, List.getElem?_eq_getElem h]
          obtain ⟨bb, rfl, d0, d1, d2, d3⟩ := RdRec.at_ gb hlt
          obtain ⟨r, hr⟩ : ∃ r, rs[k] = r := ⟨_, rfl⟩
          rw [hr] at s1 s2 s5 d0 d1 d2 d3 hty HDK
          obtain ⟨nm, sy, sz, ex⟩ := r
          dsimp only at s1 s2 s5 d0 d1 d2 d3 hty
          have m0 := HD.out.ext.cell d0
          have m1 := HD.out.ext.cell d1
          have m2 := HD.out.ext.cell d2
          have m3 := HD.out.ext.cell d3
          obtain ⟨⟨os, ts⟩, hp⟩ : ∃ p, disK T iN rs k = p := ⟨_, rfl⟩
          rw [hp] at hkl hkn HDK HD
          dsimp only at hkl hkn HDK HD
          have HKL := hd hkl
          obtain ⟨n, hn⟩ : ∃ n, os.length = n := ⟨_, rfl⟩
          rw [hn] at hkn HDK
          have HN := hd hn
          have hnl : n ≤ 400 := by omega
          have HDF : Hid (∀ l, disA T iN rs ts n ⟨nm, sy, sz, ex⟩ = l → (disK T iN rs (k + 1)).1 = os ++ l) := hd fun l h => by rw [HDK.out, h]
          have HDL : Hid (∀ l (m : Int), disA T iN rs ts n ⟨nm, sy, sz, ex⟩ = l → (n : Int) + l.length - 1 = m → (disK T iN rs (k + 1)).2 = ts ++ [m]) := hd fun l m h h2 => by rw [HDK.out, h]; dsimp only; rw [List.length_append, HN.out, ← h2, Int.natCast_add]
          have HGY := hd s2
          have HJ0 := hd (HD.out.start ⟨nm, sy, sz, ex⟩)
          obtain ⟨k0, k1, k2, k3⟩ := HJ0.out.cells
          have HS1 := hd s1
          have HTY := hd hty
          have HS5 := hd s5
          have HS3 := hd s3
          have HS4 := hd s4
          clear hp hr d0 d1 d2 d3 hn s1 s2 s3 s4 s5 hty hil hiN HDK hkl g1 g2
          go_wp2_with fail
          refine (rp_yes (i_parse nm _) HGY).mono ?_
          rintro e w1 ⟨vy, rfl, hvy, hx⟩
          obtain ⟨by_, _, _, rfl, _⟩ := hvy.head
          have HJ := hd (HJ0.out.on hx)
          have HY := hd hvy
          obtain ⟨c0, c1, c2, c3⟩ := HJ.out.cells
          generalize wr.heap.size = bs at *
          clear hx hvy k0 k1 k2 k3 m0 m1 m2 m3 HJ0 HD HGY
          have htl := HTL.out
          have s1 := HS1.out
          have hty := HTY.out
          have s5 := HS5.out
          have s4 := HS4.out
          have s3 := HS3.out
          clear HS1 HTY HS3 HS4 HS5
          by_cases hA : sy = 0 ∧ sz = (iN : Int)
          · obtain ⟨rfl, rfl⟩ := hA
            have HD1 : Hid (disA T iN rs ts n ⟨nm, 0, iN, ex⟩ = idR n T) := hd (by unfold disA; rw [if_pos ⟨rfl, rfl⟩])
            replace HDF := hd (HDF.out _ HD1.out)
            replace HDL := hd (HDL.out _ ((n : Int) + 1 + 1 + 1 + 1) HD1.out (by show (n : Int) + 5 - 1 = _; omega))
            rw [← HN.out] at HDF
            clear HD1 s1 s3 s4 s5 hty HRJ
            go_wp2_with fail
            refine (i_identityR os T _ bx bx sv _ HJ.out.box HJ.out.tree (HGB.out.ext HJ.out.ext) (fun w' hk => HGB.out.ext (hk.ex w HJ.out.ext HJ.out.lo HJ.out.lo)) (by rw [HN.out]; omega) (Nat.le_of_lt HJ.out.lt) (by omega)).mono ?_
            rw [HN.out]
            rintro e w5 ⟨rfl, ⟨sv5, hb⟩, hk⟩
            rw [← HN.out] at hb
            have HZ := hd (HJ.out.toDisI.keep hk hb)
            clear hb hk HJ HY c0 c1 c2 c3
            go_wp2_with (at_builtin; refine appI w5 HZ.out.ints rfl _ _ rfl _ (by rfl) (by rfl) (by have := HKL.out; omega) (Nat.succ_le_of_lt HZ.out.lt) ?_; intro v' w9 ho1 hg1 _; have HE := hd (HZ.out.app hg1 ho1); clear ho1 hg1)
            go_roundw
            case rel => exact ⟨k + 1, _, by omega, by go_num, by rw [HDF.out, HDL.out]; exact HE.out⟩
            case measure => simp [intOf]; omega
          · by_cases hB : sy = -1
            · subst hB
              obtain ⟨j1, j2, q1, q2, rfl, rfl⟩ := s5 rfl
              have l1 : j1 < rs.length := by omega
              have l2 : j2 < rs.length := by omega
              obtain ⟨x, x1, x2, x3, x4, _⟩ := HST.out j1 l1
              obtain ⟨bb', e', m0, -, -, -⟩ := RdRec.at_ gb l1
              injection e' with e'
              subst e'
              have htx : treeOf (recAt rs (j1 : Int)) = x := by rw [HRJ.out j1 l1]; exact treeOf_eq x2
              rw [x1] at m0 x2
              have n0 := HJ.out.ext.cell m0
              have HGX := hd x2
              obtain ⟨A8, c8, rfl, -, -, HR8⟩ := RdI.form (OwnI.rd HJ.out.ints)
              have y1 : j1 < ts.length := by rw [HKL.out]; exact q1
              have y2 : j2 < ts.length := by rw [HKL.out]; exact q2
              have HD1 : Hid (disA T iN rs ts n ⟨nm, -1, j1, j2⟩ = [⟨strF (putF T x y (schT 2)), 2, 0, 0⟩, ⟨strF (impF (impF T x) (impF T y)), -1, ts[j2], n⟩, ⟨strF (impF T y), -1, ts[j1], (n : Int) + 1⟩]) := hd (by
                unfold disA
                rw [if_neg hA, if_pos rfl]
                dsimp only
                rw [htx, hty, show (j1 : Int).toNat = j1 from rfl, show (j2 : Int).toNat = j2 from rfl, List.getD_eq_getElem?_getD, List.getD_eq_getElem?_getD, List.getElem?_eq_getElem y1, List.getElem?_eq_getElem y2]
                rfl)
              replace HDF := hd (HDF.out _ HD1.out)
              replace HDL := hd (HDL.out _ ((n : Int) + 1 + 1) HD1.out (by show (n : Int) + 3 - 1 = _; omega))
              rw [show (os ++ [⟨strF (putF T x y (schT 2)), 2, 0, 0⟩, ⟨strF (impF (impF T x) (impF T y)), -1, ts[j2], n⟩, ⟨strF (impF T y), -1, ts[j1], (n : Int) + 1⟩] : List Rec) = os ++ [⟨strF (putF T x y (schT 2)), 2, 0, 0⟩] ++ [⟨strF (impF (impF T x) (impF T y)), -1, ts[j2], n⟩] ++ [⟨strF (impF T y), -1, ts[j1], (n : Int) + 1⟩] from by simp] at HDF
              obtain ⟨a8, rfl, _⟩ := RdI.at_ HR8 y1
              have v2 : (j2 : Int) < (ts.length : Int) := by omega
              have v1 : (j1 : Int) < (ts.length : Int) := by omega
              have l1i : (j1 : Int) < (rs.length : Int) := by omega
              have hL1 := imp_len T x
              have hL2 := imp_len T y
              have HC1 : Hid (∀ p q w', GlobS w' → RdF 66 w' T (.pointer p) → RdF 66 w' x (.pointer q) → RdF 66 w' y (.pointer (some ⟨by_, 0, none⟩)) → Calls Tryd.prog 26 #[.int .i64 2, .pointer p, .pointer q, .pointer (some ⟨by_, 0, none⟩)] w' (RetF w' (putF T x y (schT 2)))) := hd fun p q w' a c d e => i_caseOf 1 (by omega) T x y p q _ (by omega) (by omega) (by omega) w' a c d (fun _ => e)
              have HC2 : Hid (∀ v u w', RdF 66 w' T v → RdF 66 w' x u → Calls Tryd.prog 28 #[.int .u8 62, v, u] w' (RetF w' (impF T x))) := hd fun v u w' a c => i_join 62 rfl T x v u w' a c (by omega) (by omega)
              have HC3 : Hid (∀ v u w', RdF 66 w' T v → RdF 66 w' y u → Calls Tryd.prog 28 #[.int .u8 62, v, u] w' (RetF w' (impF T y))) := hd fun v u w' a c => i_join 62 rfl T y v u w' a c (by omega) (by omega)
              have HC4 : Hid (∀ v u w', RdF 66 w' (impF T x) v → RdF 66 w' (impF T y) u → Calls Tryd.prog 28 #[.int .u8 62, v, u] w' (RetF w' (impF (impF T x) (impF T y)))) := hd fun v u w' a c => i_join 62 rfl (impF T x) (impF T y) v u w' a c (by omega) (by omega)
              clear HD1 hL1 hL2 HR8 htx m0 x1 x2 x3 x4 HRJ s1 s3 s4 s5 hty
              generalize putF T x y (schT 2) = t1 at *
              generalize impF (impF T x) (impF T y) = t3 at *
              generalize impF T y = t2 at *
              generalize impF T x = t4 at *
              generalize strF x = sx at *
              have e1 : ((-1 : Int) == 0) = false := rfl
              go_wp2_with fail
              refine (rp_yes (i_parse sx _) HGX).mono ?_
              rintro e w2 ⟨vx, rfl, hvx, hx⟩
              obtain ⟨bxx, _, _, rfl, _⟩ := hvx.head
              have HJ1 := hd (HJ.out.on hx)
              have HY1 := hd (HY.out.ext hx)
              have HX1 := hd hvx
              clear hx hvx n0 HJ HY c0 c1 c2 c3
              go_wp2_with fail
              refine (HC1.out _ _ _ (HGB.out.ext HJ1.out.ext) HJ1.out.tree HX1.out HY1.out).mono ?_
              rintro e w3 ⟨v3, rfl, hv3, hx⟩
              have HJ2 := hd (HJ1.out.on hx)
              have HY2 := hd (HY1.out.ext hx)
              have HX2 := hd (HX1.out.ext hx)
              have HV2 := hd hv3
              clear hx hv3 HJ1 HY1 HX1
              go_wp2_with fail
              refine (i_fputK os t1 _ bx bx sv 2 0 0 _ HJ2.out.box HV2.out (by rw [HN.out]; omega) (Nat.le_of_lt HJ2.out.lt)).mono ?_
              rw [HN.out]
              rintro e w4 ⟨rfl, ⟨sv1, hb, hK⟩, hk⟩
              have HJ3 := hd (HJ2.out.keep hk hb hK)
              have HY3 := hd (HY2.out.keep hk.nodes)
              have HX3 := hd (HX2.out.keep hk.nodes)
              clear hb hK hk HJ2 HY2 HX2 HV2
              generalize hg2 : ts[j2] = tv2 at *
              generalize hg1 : ts[j1] = tv1 at *
              have HT1 := hd hg1
              have HT2 := hd hg2
              clear hg1 hg2
              go_wp2_with fail
              refine wp_region_sink (fun w' => (w').cell? ⟨bs, 3, none⟩ = some (.int .i64 (j2 : Int)) ∧ (w').cell? (a8.add j2) = some (.int .i64 tv2)) 15 16 #[false, false, false, false, false, false, false, false, false, false, false, false, false, false, false, false] (by kernel_rfl) (by kernel_rfl) (by kernel_rfl) ?_
              have HSK : (w4.drew).cell? ⟨bs, 3, none⟩ = some (.int .i64 (j2 : Int)) ∧ (w4.drew).cell? (a8.add j2) = some (.int .i64 tv2) := ⟨HJ3.out.cells.2.2.2, by have h := HJ3.out.toDisI.at_ y2; rw [HT2.out] at h; exact h⟩
              have HJ4 := hd (HJ3.out.on (Ext.refl w4).drew)
              have HY4 := hd (HY3.out.ext (Ext.refl w4).drew)
              have HX4 := hd (HX3.out.ext (Ext.refl w4).drew)
              clear HJ3 HY3 HX3
              refine' ordG_take 0 (oi := _) (v := _) ?_ ?_ ?_ (Or.inl ⟨?_, ?_⟩) ?_ ?_
              rotate_left 2
              · (simp only [List.getElem?_toArray, List.getElem?_cons_zero]; rfl)
              · kernel_rfl
              · exact fun _ _ _ h => h
              · rfl
              · (intro w hSw; (try dsimp only at hSw); go_simp; (try with_reducible rfl))
              · exact HSK
              (try simp only [Act.put, List.setIfInBounds_toArray, List.set_cons_zero, List.set_cons_succ])
              refine' ordG_take 1 (oi := _) (v := _) ?_ ?_ ?_ (Or.inl ⟨?_, ?_⟩) ?_ ?_
              rotate_left 2
              · (simp only [List.getElem?_toArray, List.getElem?_cons_zero, List.getElem?_cons_succ]; rfl)
              · kernel_rfl
              · exact fun _ _ _ h => h
              · rfl
              · (intro w hSw; (try dsimp only at hSw); go_simp; (try with_reducible rfl))
              · exact HSK
              (try simp only [Act.put, List.setIfInBounds_toArray, List.set_cons_zero, List.set_cons_succ])
              refine' ordG_take 2 (oi := _) (v := _) ?_ ?_ ?_ (Or.inl ⟨?_, ?_⟩) ?_ ?_
              rotate_left 2
              · (simp only [List.getElem?_toArray, List.getElem?_cons_zero, List.getElem?_cons_succ]; rfl)
              · kernel_rfl
              · exact fun _ _ _ h => h
              · rfl
              · (intro w hSw; (try dsimp only at hSw); go_simp; (try with_reducible rfl))
              · exact HSK
              (try simp only [Act.put, List.setIfInBounds_toArray, List.set_cons_zero, List.set_cons_succ])
              refine' ordG_take 4 (oi := _) (v := _) ?_ ?_ ?_ (Or.inl ⟨?_, ?_⟩) ?_ ?_
              rotate_left 2
              · (simp only [List.getElem?_toArray, List.getElem?_cons_zero, List.getElem?_cons_succ]; rfl)
              · kernel_rfl
              · exact fun _ _ _ h => h
              · rfl
              · (intro w hSw; (try dsimp only at hSw); go_simp; (try with_reducible rfl))
              · exact HSK
              (try simp only [Act.put, List.setIfInBounds_toArray, List.set_cons_zero, List.set_cons_succ])
              refine' ordG_take 5 (oi := _) (v := _) ?_ ?_ ?_ (Or.inl ⟨?_, ?_⟩) ?_ ?_
              rotate_left 2
              · (simp only [List.getElem?_toArray, List.getElem?_cons_zero, List.getElem?_cons_succ]; rfl)
              · kernel_rfl
              · exact fun _ _ _ h => h
              · rfl
              · (intro w hSw; (try dsimp only at hSw); go_simp; (try with_reducible rfl))
              · exact HSK
              (try simp only [Act.put, List.setIfInBounds_toArray, List.set_cons_zero, List.set_cons_succ])
              refine' ordG_take 8 (oi := _) (v := _) ?_ ?_ ?_ (Or.inl ⟨?_, ?_⟩) ?_ ?_
              rotate_left 2
              · (simp only [List.getElem?_toArray, List.getElem?_cons_zero, List.getElem?_cons_succ]; rfl)
              · kernel_rfl
              · exact fun _ _ _ h => h
              · rfl
              · (intro w hSw; (try dsimp only at hSw); go_simp; (try with_reducible rfl))
              · exact HSK
              (try simp only [Act.put, List.setIfInBounds_toArray, List.set_cons_zero, List.set_cons_succ])
              refine' ordG_take 9 (oi := _) (v := _) ?_ ?_ ?_ (Or.inl ⟨?_, ?_⟩) ?_ ?_
              rotate_left 2
              · (simp only [List.getElem?_toArray, List.getElem?_cons_zero, List.getElem?_cons_succ]; rfl)
              · kernel_rfl
              · exact fun _ _ _ h => h
              · rfl
              · (intro w hSw; (try dsimp only at hSw); go_simp; (try with_reducible rfl))
              · exact HSK
              (try simp only [Act.put, List.setIfInBounds_toArray, List.set_cons_zero, List.set_cons_succ])
              refine' ordG_take 10 (oi := _) (v := _) ?_ ?_ ?_ (Or.inl ⟨?_, ?_⟩) ?_ ?_
              rotate_left 2
              · (simp only [List.getElem?_toArray, List.getElem?_cons_zero, List.getElem?_cons_succ]; rfl)
              · kernel_rfl
              · exact fun _ _ _ h => h
              · rfl
              · (intro w hSw; (try dsimp only at hSw); go_simp; (try with_reducible rfl))
              · exact HSK
              (try simp only [Act.put, List.setIfInBounds_toArray, List.set_cons_zero, List.set_cons_succ])
              refine' ordG_take 11 (oi := _) (v := _) ?_ ?_ ?_ (Or.inl ⟨?_, ?_⟩) ?_ ?_
              rotate_left 2
              · (simp only [List.getElem?_toArray, List.getElem?_cons_zero, List.getElem?_cons_succ]; rfl)
              · kernel_rfl
              · exact fun _ _ _ h => h
              · rfl
              · (intro w hSw; (try dsimp only at hSw); go_simp; (try with_reducible rfl))
              · exact HSK
              (try simp only [Act.put, List.setIfInBounds_toArray, List.set_cons_zero, List.set_cons_succ])
              refine' ordG_take 12 (oi := _) (v := _) ?_ ?_ ?_ (Or.inl ⟨?_, ?_⟩) ?_ ?_
              rotate_left 2
              · (simp only [List.getElem?_toArray, List.getElem?_cons_zero, List.getElem?_cons_succ]; rfl)
              · kernel_rfl
              · exact fun _ _ _ h => h
              · rfl
              · (intro w hSw; (try dsimp only at hSw); go_simp; (try with_reducible rfl))
              · exact HSK
              (try simp only [Act.put, List.setIfInBounds_toArray, List.set_cons_zero, List.set_cons_succ])
              refine' ordG_take 13 (oi := _) (v := _) ?_ ?_ ?_ (Or.inl ⟨?_, ?_⟩) ?_ ?_
              rotate_left 2
              · (simp only [List.getElem?_toArray, List.getElem?_cons_zero, List.getElem?_cons_succ]; rfl)
              · kernel_rfl
              · exact fun _ _ _ h => h
              · rfl
              · (intro w hSw; (try dsimp only at hSw); go_simp; (try with_reducible rfl))
              · exact HSK
              (try simp only [Act.put, List.setIfInBounds_toArray, List.set_cons_zero, List.set_cons_succ])
              refine ordG_all (rs := [3]) (by kernel_rfl) (by simp) (by decide) ?_
              refine' ordG_cons (o := _) ?_ (fun K hK => ?_) ordG_nil
              rotate_left 1
              · (simp only [List.getElem?_toArray, List.getElem?_cons_zero, List.getElem?_cons_succ]; rfl)
              go_simp
              go_at_call 28
              refine (HC2.out _ _ _ HJ4.out.tree HX4.out).mono ?_
              rintro e w5 ⟨v4, rfl, hv4, hx⟩
              have HJ5 := hd (HJ4.out.on hx)
              have HY5 := hd (HY4.out.ext hx)
              have HA5 := hd hv4
              clear hx hv4 HJ4 HY4 HX4
              go_simp
              refine hK.out _ _ ⟨HJ5.out.cells.2.2.2, by have h := HJ5.out.toDisI.at_ y2; rw [HT2.out] at h; exact h⟩ ?_
              clear hK K HSK
              (try simp only [Act.put, List.setIfInBounds_toArray, List.set_cons_zero, List.set_cons_succ])
              refine ordG_all (rs := [6]) (by kernel_rfl) (by simp) (by decide) ?_
              refine' ordG_cons (o := _) ?_ (fun K hK => ?_) ordG_nil
              rotate_left 1
              · (simp only [List.getElem?_toArray, List.getElem?_cons_zero, List.getElem?_cons_succ]; rfl)
              go_simp
              go_at_call 28
              refine (HC3.out _ _ _ HJ5.out.tree HY5.out).mono ?_
              rintro e w6 ⟨v5, rfl, hv5, hx⟩
              have HJ6 := hd (HJ5.out.on hx)
              have HY6 := hd (HY5.out.ext hx)
              have HA6 := hd (HA5.out.ext hx)
              have HB6 := hd hv5
              clear hx hv5 HJ5 HY5 HA5
              go_simp
              refine hK.out _ _ ⟨HJ6.out.cells.2.2.2, by have h := HJ6.out.toDisI.at_ y2; rw [HT2.out] at h; exact h⟩ ?_
              clear hK K
              (try simp only [Act.put, List.setIfInBounds_toArray, List.set_cons_zero, List.set_cons_succ])
              refine ordG_all (rs := [7]) (by kernel_rfl) (by simp) (by decide) ?_
              refine' ordG_cons (o := _) ?_ (fun K hK => ?_) ordG_nil
              rotate_left 1
              · (simp only [List.getElem?_toArray, List.getElem?_cons_zero, List.getElem?_cons_succ]; rfl)
              go_simp
              go_at_call 28
              refine (HC4.out _ _ _ HA6.out HB6.out).mono ?_
              rintro e w7 ⟨v6, rfl, hv6, hx⟩
              have HJ7 := hd (HJ6.out.on hx)
              have HY7 := hd (HY6.out.ext hx)
              have HV7 := hd hv6
              clear hx hv6 HJ6 HY6 HA6 HB6
              go_simp
              refine hK.out _ _ ⟨HJ7.out.cells.2.2.2, by have h := HJ7.out.toDisI.at_ y2; rw [HT2.out] at h; exact h⟩ ?_
              clear hK K
              (try simp only [Act.put, List.setIfInBounds_toArray, List.set_cons_zero, List.set_cons_succ])
              refine ordG_all (rs := [14]) (by kernel_rfl) (by simp) (by decide) ?_
              refine' ordG_cons (o := _) ?_ (fun K hK => ?_) ordG_nil
              rotate_left 1
              · (simp only [List.getElem?_toArray, List.getElem?_cons_zero, List.getElem?_cons_succ]; rfl)
              go_simp
              go_at_call 27
              refine (i_modusK _ t3 _ bx bx sv1 tv2 n _ HJ7.out.box HV7.out (by rw [List.length_append, HN.out]; simp; omega) (Nat.le_of_lt HJ7.out.lt)).mono ?_
              rw [List.length_append, HN.out]
              rintro e w8 ⟨rfl, ⟨sv2, hb, hKK⟩, hk⟩
              have HJ8 := hd (HJ7.out.keep hk hb hKK)
              have HY8 := hd (HY7.out.keep hk.nodes)
              clear hb hKK hk HJ7 HY7 HV7
              go_simp
              refine hK.out _ _ ⟨HJ8.out.cells.2.2.2, by have h := HJ8.out.toDisI.at_ y2; rw [HT2.out] at h; exact h⟩ ?_
              clear hK K
              (try simp only [Act.put, List.setIfInBounds_toArray, List.set_cons_zero, List.set_cons_succ])
              refine ordG_last (by kernel_rfl) (by kernel_rfl) ?_
              refine' wpOp_step (o := _) ?_ (fun K hK => ?_)
              rotate_left 1
              · (simp only [List.getElem?_toArray, List.getElem?_cons_zero, List.getElem?_cons_succ]; rfl)
              go_simp
              refine hK _ _ ?_
              clear hK K
              (try simp only [Act.put, List.setIfInBounds_toArray, List.set_cons_zero, List.set_cons_succ])
              go_wp2_with fail
              refine wp_region_sink (fun w' => (w').cell? ⟨bs, 2, none⟩ = some (.int .i64 (j1 : Int)) ∧ (w').cell? (a8.add j1) = some (.int .i64 tv1)) 11 12 #[false, false, false, false, false, false, false, false, false, false, false, false] (by kernel_rfl) (by kernel_rfl) (by kernel_rfl) ?_
              have HSK : (w8.drew).cell? ⟨bs, 2, none⟩ = some (.int .i64 (j1 : Int)) ∧ (w8.drew).cell? (a8.add j1) = some (.int .i64 tv1) := ⟨HJ8.out.cells.2.2.1, by have h := HJ8.out.toDisI.at_ y1; rw [HT1.out] at h; exact h⟩
              have HJ9 := hd (HJ8.out.on (Ext.refl w8).drew)
              have HY9 := hd (HY8.out.ext (Ext.refl w8).drew)
              clear HJ8 HY8
              refine' ordG_take 0 (oi := _) (v := _) ?_ ?_ ?_ (Or.inl ⟨?_, ?_⟩) ?_ ?_
              rotate_left 2
              · (simp only [List.getElem?_toArray, List.getElem?_cons_zero]; rfl)
              · kernel_rfl
              · exact fun _ _ _ h => h
              · rfl
              · (intro w hSw; (try dsimp only at hSw); go_simp; (try with_reducible rfl))
              · exact HSK
              (try simp only [Act.put, List.setIfInBounds_toArray, List.set_cons_zero, List.set_cons_succ])
              refine' ordG_take 1 (oi := _) (v := _) ?_ ?_ ?_ (Or.inl ⟨?_, ?_⟩) ?_ ?_
              rotate_left 2
              · (simp only [List.getElem?_toArray, List.getElem?_cons_zero, List.getElem?_cons_succ]; rfl)
              · kernel_rfl
              · exact fun _ _ _ h => h
              · rfl
              · (intro w hSw; (try dsimp only at hSw); go_simp; (try with_reducible rfl))
              · exact HSK
              (try simp only [Act.put, List.setIfInBounds_toArray, List.set_cons_zero, List.set_cons_succ])
              refine' ordG_take 2 (oi := _) (v := _) ?_ ?_ ?_ (Or.inl ⟨?_, ?_⟩) ?_ ?_
              rotate_left 2
              · (simp only [List.getElem?_toArray, List.getElem?_cons_zero, List.getElem?_cons_succ]; rfl)
              · kernel_rfl
              · exact fun _ _ _ h => h
              · rfl
              · (intro w hSw; (try dsimp only at hSw); go_simp; (try with_reducible rfl))
              · exact HSK
              (try simp only [Act.put, List.setIfInBounds_toArray, List.set_cons_zero, List.set_cons_succ])
              refine' ordG_take 4 (oi := _) (v := _) ?_ ?_ ?_ (Or.inl ⟨?_, ?_⟩) ?_ ?_
              rotate_left 2
              · (simp only [List.getElem?_toArray, List.getElem?_cons_zero, List.getElem?_cons_succ]; rfl)
              · kernel_rfl
              · exact fun _ _ _ h => h
              · rfl
              · (intro w hSw; (try dsimp only at hSw); go_simp; (try with_reducible rfl))
              · exact HSK
              (try simp only [Act.put, List.setIfInBounds_toArray, List.set_cons_zero, List.set_cons_succ])
              refine' ordG_take 5 (oi := _) (v := _) ?_ ?_ ?_ (Or.inl ⟨?_, ?_⟩) ?_ ?_
              rotate_left 2
              · (simp only [List.getElem?_toArray, List.getElem?_cons_zero, List.getElem?_cons_succ]; rfl)
              · kernel_rfl
              · exact fun _ _ _ h => h
              · rfl
              · (intro w hSw; (try dsimp only at hSw); go_simp; (try with_reducible rfl))
              · exact HSK
              (try simp only [Act.put, List.setIfInBounds_toArray, List.set_cons_zero, List.set_cons_succ])
              refine' ordG_take 6 (oi := _) (v := _) ?_ ?_ ?_ (Or.inl ⟨?_, ?_⟩) ?_ ?_
              rotate_left 2
              · (simp only [List.getElem?_toArray, List.getElem?_cons_zero, List.getElem?_cons_succ]; rfl)
              · kernel_rfl
              · exact fun _ _ _ h => h
              · rfl
              · (intro w hSw; (try dsimp only at hSw); go_simp; (try with_reducible rfl))
              · exact HSK
              (try simp only [Act.put, List.setIfInBounds_toArray, List.set_cons_zero, List.set_cons_succ])
              refine' ordG_take 7 (oi := _) (v := _) ?_ ?_ ?_ (Or.inl ⟨?_, ?_⟩) ?_ ?_
              rotate_left 2
              · (simp only [List.getElem?_toArray, List.getElem?_cons_zero, List.getElem?_cons_succ]; rfl)
              · kernel_rfl
              · exact fun _ _ _ h => h
              · rfl
              · (intro w hSw; (try dsimp only at hSw); go_simp; (try with_reducible rfl))
              · exact HSK
              (try simp only [Act.put, List.setIfInBounds_toArray, List.set_cons_zero, List.set_cons_succ])
              refine' ordG_take 8 (oi := _) (v := _) ?_ ?_ ?_ (Or.inl ⟨?_, ?_⟩) ?_ ?_
              rotate_left 2
              · (simp only [List.getElem?_toArray, List.getElem?_cons_zero, List.getElem?_cons_succ]; rfl)
              · kernel_rfl
              · exact fun _ _ _ h => h
              · rfl
              · (intro w hSw; (try dsimp only at hSw); go_simp; (try with_reducible rfl))
              · exact HSK
              (try simp only [Act.put, List.setIfInBounds_toArray, List.set_cons_zero, List.set_cons_succ])
              refine' ordG_take 9 (oi := _) (v := _) ?_ ?_ ?_ (Or.inl ⟨?_, ?_⟩) ?_ ?_
              rotate_left 2
              · (simp only [List.getElem?_toArray, List.getElem?_cons_zero, List.getElem?_cons_succ]; rfl)
              · kernel_rfl
              · exact fun _ _ _ h => h
              · rfl
              · (intro w hSw; (try dsimp only at hSw); go_simp; (try with_reducible rfl))
              · exact HSK
              (try simp only [Act.put, List.setIfInBounds_toArray, List.set_cons_zero, List.set_cons_succ])
              refine ordG_all (rs := [3]) (by kernel_rfl) (by simp) (by decide) ?_
              refine' ordG_cons (o := _) ?_ (fun K hK => ?_) ordG_nil
              rotate_left 1
              · (simp only [List.getElem?_toArray, List.getElem?_cons_zero, List.getElem?_cons_succ]; rfl)
              go_simp
              go_at_call 28
              refine (HC3.out _ _ _ HJ9.out.tree HY9.out).mono ?_
              rintro e w5 ⟨v4, rfl, hv4, hx⟩
              have HJ10 := hd (HJ9.out.on hx)
              have HA10 := hd hv4
              clear hx hv4 HJ9 HY9
              go_simp
              refine hK.out _ _ ⟨HJ10.out.cells.2.2.1, by have h := HJ10.out.toDisI.at_ y1; rw [HT1.out] at h; exact h⟩ ?_
              clear hK K HSK
              (try simp only [Act.put, List.setIfInBounds_toArray, List.set_cons_zero, List.set_cons_succ])
              refine ordG_all (rs := [10]) (by kernel_rfl) (by simp) (by decide) ?_
              refine' ordG_cons (o := _) ?_ (fun K hK => ?_) ordG_nil
              rotate_left 1
              · (simp only [List.getElem?_toArray, List.getElem?_cons_zero, List.getElem?_cons_succ]; rfl)
              go_simp
              go_at_call 27
              refine (i_modusK _ t2 _ bx bx sv2 tv1 ((n : Int) + 1) _ HJ10.out.box HA10.out (by rw [List.length_append, List.length_append, HN.out]; simp; omega) (Nat.le_of_lt HJ10.out.lt)).mono ?_
              rw [List.length_append, List.length_append, HN.out]
              rintro e w6 ⟨rfl, ⟨sv3, hb, hKK⟩, hk⟩
              have HJ11 := hd (HJ10.out.keep hk hb hKK)
              clear hb hKK hk HJ10 HA10
              go_simp
              refine hK.out _ _ ⟨HJ11.out.cells.2.2.1, by have h := HJ11.out.toDisI.at_ y1; rw [HT1.out] at h; exact h⟩ ?_
              clear hK K
              (try simp only [Act.put, List.setIfInBounds_toArray, List.set_cons_zero, List.set_cons_succ])
              refine ordG_last (by kernel_rfl) (by kernel_rfl) ?_
              refine' wpOp_step (o := _) ?_ (fun K hK => ?_)
              rotate_left 1
              · (simp only [List.getElem?_toArray, List.getElem?_cons_zero, List.getElem?_cons_succ]; rfl)
              go_simp
              refine hK _ _ ?_
              clear hK K
              (try simp only [Act.put, List.setIfInBounds_toArray, List.set_cons_zero, List.set_cons_succ])
              have HZ := hd HJ11.out.toDisI
              clear HJ11
              go_wp2_with (at_builtin; refine appI w6 HZ.out.ints rfl _ _ rfl _ (by rfl) (by rfl) (by have := HKL.out; omega) (Nat.succ_le_of_lt HZ.out.lt) ?_; intro v' w9 ho1 hg1 _; have HE := hd (HZ.out.app hg1 ho1); clear ho1 hg1)
              go_roundw
              case rel => exact ⟨k + 1, _, by omega, by go_num, by rw [HDF.out, HDL.out]; exact HE.out⟩
              case measure => simp [intOf]; omega
            · have HD1 : Hid (disA T iN rs ts n ⟨nm, sy, sz, ex⟩ = [⟨nm, sy, sz, ex⟩, ⟨strF (putF y T T (schT 1)), 1, 0, 0⟩, ⟨strF (impF T y), -1, n, (n : Int) + 1⟩]) := hd (by unfold disA; rw [if_neg hA, if_neg hB, hty])
              replace HDF := hd (HDF.out _ HD1.out)
              replace HDL := hd (HDL.out _ ((n : Int) + 1 + 1) HD1.out (by show (n : Int) + 3 - 1 = _; omega))
              rw [show (os ++ [⟨nm, sy, sz, ex⟩, ⟨strF (putF y T T (schT 1)), 1, 0, 0⟩, ⟨strF (impF T y), -1, n, (n : Int) + 1⟩] : List Rec) = os ++ [⟨nm, sy, sz, ex⟩] ++ [⟨strF (putF y T T (schT 1)), 1, 0, 0⟩] ++ [⟨strF (impF T y), -1, n, (n : Int) + 1⟩] from by simp, s1] at HDF
              have HC1 : Hid (∀ p w', GlobS w' → RdF 66 w' T (.pointer p) → RdF 66 w' y (.pointer (some ⟨by_, 0, none⟩)) → Calls Tryd.prog 26 #[.int .i64 1, .pointer (some ⟨by_, 0, none⟩), .pointer p, .pointer none] w' (RetF w' (putF y T T (schT 1)))) := hd fun p w' a c d => i_caseOf 0 (by omega) y T T _ p none (by omega) (by omega) (by omega) w' a d c (fun h => absurd h (by decide))
              have HC2 : Hid (∀ v w', RdF 66 w' T v → RdF 66 w' y (.pointer (some ⟨by_, 0, none⟩)) → Calls Tryd.prog 28 #[.int .u8 62, v, .pointer (some ⟨by_, 0, none⟩)] w' (RetF w' (impF T y))) := hd fun v w' a c => i_join 62 rfl T y v _ w' a c (by omega) (by omega)
              clear HD1
              generalize putF y T T (schT 1) = t1 at *
              generalize impF T y = t2 at *
              clear s3 s4 s5 hty HRJ
              have e2 : (sy == -1) = false := by simpa using hB
              by_cases hz : sy = 0
              · subst hz
                have e3 : (sz == (iN : Int)) = false := by simp; intro h; exact hA ⟨rfl, h⟩
                go_wp2_with fail
                refine (i_fputR os y _ bx bx sv 0 sz ex _ HJ.out.box HY.out (by rw [HN.out]; omega) (Nat.le_of_lt HJ.out.lt)).mono ?_
                rw [HN.out]
                rintro e w2 ⟨rfl, ⟨sv1, hb⟩, hk⟩
                have HI1 := hd (HJ.out.toDisI.keep hk hb)
                have HY1 := hd (HY.out.keep hk.nodes)
                clear hb hk HJ HY c0 c1 c2 c3
                go_wp2_with fail
                refine (HC2.out _ _ HI1.out.tree HY1.out).mono ?_
                rintro e w3 ⟨v1, rfl, hv1, hx⟩
                have HI2 := hd (HI1.out.on hx)
                have HY2 := hd (HY1.out.ext hx)
                have HV2 := hd hv1
                clear hv1 hx HI1 HY1
                go_wp2_with fail
                refine (HC1.out _ _ (HGB.out.ext HI2.out.ext) HI2.out.tree HY2.out).mono ?_
                rintro e w4 ⟨v3, rfl, hv3, hx⟩
                have HI3 := hd (HI2.out.on hx)
                have HV3 := hd (HV2.out.ext hx)
                have HW3 := hd hv3
                clear hv3 hx HI2 HY2 HV2
                go_wp2_with fail
                refine (i_fputR _ t1 _ bx bx sv1 1 0 0 _ HI3.out.box HW3.out (by rw [List.length_append, HN.out]; simp; omega) (Nat.le_of_lt HI3.out.lt)).mono ?_
                rw [List.length_append, HN.out]
                rintro e w5 ⟨rfl, ⟨sv2, hb⟩, hk⟩
                have HI4 := hd (HI3.out.keep hk hb)
                have HV4 := hd (HV3.out.keep hk.nodes)
                clear hb hk HI3 HV3 HW3
                go_wp2_with fail
                refine (i_modusR _ t2 _ bx bx sv2 n ((n : Int) + 1) _ HI4.out.box HV4.out (by rw [List.length_append, List.length_append, HN.out]; simp; omega) (Nat.le_of_lt HI4.out.lt)).mono ?_
                rw [List.length_append, List.length_append, HN.out]
                rintro e w6 ⟨rfl, ⟨sv3, hb⟩, hk⟩
                have HZ := hd (HI4.out.keep hk hb)
                clear hb hk HI4 HV4
                go_wp2_with (at_builtin; refine appI w6 HZ.out.ints rfl _ _ rfl _ (by rfl) (by rfl) (by have := HKL.out; omega) (Nat.succ_le_of_lt HZ.out.lt) ?_; intro v' w9 ho1 hg1 _; have HE := hd (HZ.out.app hg1 ho1); clear ho1 hg1)
                go_roundw
                case rel => exact ⟨k + 1, _, by omega, by go_num, by rw [HDF.out, HDL.out]; exact HE.out⟩
                case measure => simp [intOf]; omega
              · have e1 : (sy == 0) = false := by simpa using hz
                go_wp2_with fail
                refine (i_fputR os y _ bx bx sv sy sz ex _ HJ.out.box HY.out (by rw [HN.out]; omega) (Nat.le_of_lt HJ.out.lt)).mono ?_
                rw [HN.out]
                rintro e w2 ⟨rfl, ⟨sv1, hb⟩, hk⟩
                have HI1 := hd (HJ.out.toDisI.keep hk hb)
                have HY1 := hd (HY.out.keep hk.nodes)
                clear hb hk HJ HY c0 c1 c2 c3
                go_wp2_with fail
                refine (HC2.out _ _ HI1.out.tree HY1.out).mono ?_
                rintro e w3 ⟨v1, rfl, hv1, hx⟩
                have HI2 := hd (HI1.out.on hx)
                have HY2 := hd (HY1.out.ext hx)
                have HV2 := hd hv1
                clear hv1 hx HI1 HY1
                go_wp2_with fail
                refine (HC1.out _ _ (HGB.out.ext HI2.out.ext) HI2.out.tree HY2.out).mono ?_
                rintro e w4 ⟨v3, rfl, hv3, hx⟩
                have HI3 := hd (HI2.out.on hx)
                have HV3 := hd (HV2.out.ext hx)
                have HW3 := hd hv3
                clear hv3 hx HI2 HY2 HV2
                go_wp2_with fail
                refine (i_fputR _ t1 _ bx bx sv1 1 0 0 _ HI3.out.box HW3.out (by rw [List.length_append, HN.out]; simp; omega) (Nat.le_of_lt HI3.out.lt)).mono ?_
                rw [List.length_append, HN.out]
                rintro e w5 ⟨rfl, ⟨sv2, hb⟩, hk⟩
                have HI4 := hd (HI3.out.keep hk hb)
                have HV4 := hd (HV3.out.keep hk.nodes)
                clear hb hk HI3 HV3 HW3
                go_wp2_with fail
                refine (i_modusR _ t2 _ bx bx sv2 n ((n : Int) + 1) _ HI4.out.box HV4.out (by rw [List.length_append, List.length_append, HN.out]; simp; omega) (Nat.le_of_lt HI4.out.lt)).mono ?_
                rw [List.length_append, List.length_append, HN.out]
                rintro e w6 ⟨rfl, ⟨sv3, hb⟩, hk⟩
                have HZ := hd (HI4.out.keep hk hb)
                clear hb hk HI4 HV4
                go_wp2_with (at_builtin; refine appI w6 HZ.out.ints rfl _ _ rfl _ (by rfl) (by rfl) (by have := HKL.out; omega) (Nat.succ_le_of_lt HZ.out.lt) ?_; intro v' w9 ho1 hg1 _; have HE := hd (HZ.out.app hg1 ho1); clear ho1 hg1)
                go_roundw
                case rel => exact ⟨k + 1, _, by omega, by go_num, by rw [HDF.out, HDL.out]; exact HE.out⟩
                case measure => simp [intOf]; omega
        · have hke : k = rs.length := by omega
          subst hke
          have HDE : Hid ((disK T iN rs rs.length).1 = disR gs rs iN) := hd HDR.out.symm
          rw [HDE.out] at HD
          have HX := hd HD.out.ext
          have HU := hd (own_rebase (base' := w.heap.size) HD.out.box.own HD.out.lo)
          have HDO := hd (i_doneR _ _ _ _ _ HD.out.box)
          clear HD
          generalize disR gs rs iN = ds at *
          go_wp2_with fail
          refine HDO.out.mono ?_
          rintro e w3 ⟨rfl, rfl⟩
          obtain ⟨q, hq⟩ : ∃ q, giveF ds = q := ⟨_, rfl⟩
          have HQ := hd hq
          rw [hq]
          clear hq
          cases q
          · rw [if_neg (by decide)]
            go_wp2
            go_ret2
            exact ⟨_, by rw [HOK.out, HQ.out]; rfl, by rw [HV.out, HQ.out]; exact ⟨own_nil _ _ _ _, (fun b e => by cases e), fun r hr => by cases hr⟩, HX.out⟩
          · rw [if_pos rfl]
            go_wp2
            go_ret2
            exact ⟨_, by rw [HOK.out, HQ.out]; rfl, by rw [HV.out, HQ.out]; exact ⟨HU.out, own_lt HU.out, fun r hr => HS.out r hr HQ.out⟩, HX.out⟩
end Go.Proofs.YtapgpjhogdmjbaaDoor
