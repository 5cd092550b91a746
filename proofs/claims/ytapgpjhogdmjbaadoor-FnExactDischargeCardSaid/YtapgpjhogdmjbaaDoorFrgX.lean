/-
  Discharge, the reference: the walk of the steps without a given formula. Conditions: texts and lists up to 2^20; the steps are a proof.
-/
import Derived.Test.YtapgpjhogdmjbaaDoorFrgW
namespace Go.Proofs.YtapgpjhogdmjbaaDoor
open Go.RowKit Go.Sort
theorem name_worldF {c : Exit → Act → World → Prop} {e : Exit} {a : Act} {w : World} (F : World → Prop) (hF : F w) (h : ∀ W, F W → c e a W) : c e a w := h w hF
theorem heap_n3F (w : World) (o o' : Obj) : ((w.alloc o).alloc o').heap[w.heap.size + 1]? = some o' := by have := heap_alloc_new (w.alloc o) o'; simpa using this
set_option maxRecDepth 100000 in
set_option maxHeartbeats 6400000 in
theorem s_l24Discharge (gs : List (List UInt8)) (rs : List Rec) (i : Nat) (hi : i < gs.length) (hp : prfS gs rs = true) (v u : Value) (w : World) (hv : Rd_StringS w v gs) (hu : RdRec w u rs) :
    Calls Tryd.prog 19 #[v, u, .int .i64 i] w (fun e w' => ∃ u, e = .returned u ∧ OwnF w' w.heap.size u (disR gs rs i) ∧ Ext w w') := by
  obtain ⟨A, c, rfl, h1, h2, ha⟩ := hv.form
  obtain ⟨B, d, rfl, g1, g2, gb⟩ := hu.form
  obtain ⟨T, ht1, ht2, ht3, ht4⟩ := prf_given hp hi
  obtain ⟨hl1, hl2⟩ := prf_len hp
  have HDR : Hid (disR gs rs i = (disK T i rs rs.length).1) := hd (by
    unfold disR
    rw [show (gs.getD (i : Int).toNat []) = gs[i] by simp [List.getD_eq_getElem?_getD, hi], treeOf_eq ht2])
  have HST : Hid (∀ k, ∀ h : k < rs.length, _) := hd fun k h => prf_step hp h
  obtain ⟨a, rfl, hc0⟩ := Rd_StringS.at_ ha hi
  have hT : (⟨gs[i].toArray⟩ : ByteArray) = strF T := strF_of (by simpa using ht1)
  rw [hT] at hc0
  have HTL := hd ht4
  have hil : (i : Int) < (gs.length : Int) := by omega
  clear hv hu ht1 ht2 ht3 ht4 hT hp ha
  have f1 := (Ext.new w (.cells #[] 42)).cell hc0
  have f2 := (Ext.new w (.cells #[] 3)).cell hc0
  have f3 := ((Ext.new w (.cells #[] 42)).alloc (.cells #[] 3)).cell hc0
  have f4 := ((Ext.new w (.cells #[] 3)).alloc (.cells #[] 42)).cell hc0
  go_enter Tryd.func19, Tryd.ntmps19
  go_wp2
  obtain ⟨lo, hlo⟩ : ∃ lo, lo = w.heap.size := ⟨_, rfl⟩
  have HLO := hd hlo
  have BF : ∀ (W : World) (b : Nat), W.heap[b]? = some (.cells #[] 42) → lo ≤ b → OwnF W lo (.slice (some ⟨b, 0, none⟩) 0 0) [] := fun W b h h2 => ⟨rfl, .inr ⟨b, 0, #[], rfl, h2, h, Nat.le_refl _, Nat.zero_le _, rfl, rfl⟩⟩
  have BI : ∀ (W : World) (b : Nat), W.heap[b]? = some (.cells #[] 3) → lo ≤ b → OwnI W lo 3 (.slice (some ⟨b, 0, none⟩) 0 0) [] := fun W b h h2 => ownI_at h h2
  refine have KEY : ∀ (W : World) (b1 b2 : Nat), (OwnF W lo (.slice (some ⟨b1, 0, none⟩) 0 0) [] ∧ OwnI W lo 3 (.slice (some ⟨b2, 0, none⟩) 0 0) [] ∧ Ext w W) → (?G : World → Nat → Nat → Prop) W b1 b2 := ?key; ?main
  case main =>
    go_region_law (fail)
    all_goals
      first
        | (refine name_worldF (fun W => OwnF W lo (.slice (some ⟨w.heap.size, 0, none⟩) 0 0) [] ∧ OwnI W lo 3 (.slice (some ⟨w.heap.size + 1, 0, none⟩) 0 0) [] ∧ Ext w W) ⟨BF _ _ (heap_n2 _ _ _) (by omega), BI _ _ (heap_n3F _ _ _) (by omega), by repeat (first | exact Ext.refl _ | apply Ext.drew | refine Ext.alloc ?_ _)⟩ ?_
           intro W HW
           generalize w.heap.size + 1 = b2 at HW ⊢
           generalize w.heap.size = b1 at HW ⊢
           exact KEY W b1 b2 HW)
        | (refine name_worldF (fun W => OwnF W lo (.slice (some ⟨w.heap.size + 1, 0, none⟩) 0 0) [] ∧ OwnI W lo 3 (.slice (some ⟨w.heap.size, 0, none⟩) 0 0) [] ∧ Ext w W) ⟨BF _ _ (heap_n3F _ _ _) (by omega), BI _ _ (heap_n2 _ _ _) (by omega), by repeat (first | exact Ext.refl _ | apply Ext.drew | refine Ext.alloc ?_ _)⟩ ?_
           intro W HW
           generalize w.heap.size + 1 = b1 at HW ⊢
           generalize w.heap.size = b2 at HW ⊢
           exact KEY W b1 b2 HW)
  case key =>
    rintro W b1 b2 ⟨hF, hI, hX⟩
    clear f1 f2 f3 f4 hc0 BF BI HLO
    subst hlo
    go_wp2
    go_loopw [7, 8, 10] (fun v u j wr => ∃ k : Nat, k ≤ rs.length ∧ j = .int .i64 k ∧ OwnF wr w.heap.size v (disK T i rs k).1 ∧ OwnI wr w.heap.size 3 u (disK T i rs k).2 ∧ Ext w wr) (fun _ _ j _ => rs.length - (intOf j).toNat)
    case atStart => exact ⟨0, by omega, rfl, hF, hI, hX⟩
    case round =>
      clear hF hI hX
      obtain ⟨k, hk, rfl, hF, hI, hX⟩ := hrel
      have HX := hd hX
      obtain ⟨hkl, hkn⟩ := disK_len (A := T) (i := i) (rs := rs) k hk
      by_cases hlt : k < rs.length
      · have HDK := hd (disK_step (A := T) (i := i) hlt)
        obtain ⟨y, s1, s2, s3, s4, s5⟩ := HST.out k hlt
        have hty := treeOf_eq s2
        have HRJ : Hid (∀ j : Nat, ∀ h : j < rs.length, recAt rs (j : Int) = rs[j].name) := hd fun j h => by unfold recAt; rw [show ((j : Int).toNat) = j from rfl, List.getElem?_eq_getElem h]
        obtain ⟨bb, rfl, d0, d1, d2, d3⟩ := RdRec.at_ gb hlt
        obtain ⟨r, hr⟩ : ∃ r, rs[k] = r := ⟨_, rfl⟩
        rw [hr] at s1 s2 s5 d0 d1 d2 d3 hty HDK
        obtain ⟨nm, sy, sz, ex⟩ := r
        dsimp only at s1 s2 s5 d0 d1 d2 d3 hty
        have c0 := HX.out.cell d0
        have c1 := HX.out.cell d1
        have c2 := HX.out.cell d2
        have c3 := HX.out.cell d3
        obtain ⟨⟨os, ts⟩, hp⟩ : ∃ p, disK T i rs k = p := ⟨_, rfl⟩
        rw [hp] at hkl hkn HDK hF hI
        dsimp only at hkl hkn HDK hF hI
        have HKL := hd hkl
        obtain ⟨n, hn⟩ : ∃ n, os.length = n := ⟨_, rfl⟩
        rw [hn] at hkn HDK
        obtain ⟨A1, c1', rfl⟩ := OwnF.form2 hF hn
        have HN := hd hn
        have hnl : n ≤ 400 := by omega
        have HF := hd hF
        have HI := hd hI
        have HD := hd (DisS.start (r := ⟨nm, sy, sz, ex⟩) HX.out hF hI)
        obtain ⟨k0, k1, k2, k3⟩ := HD.out.cells
        have HDF : Hid (∀ l, disA T i rs ts n ⟨nm, sy, sz, ex⟩ = l → (disK T i rs (k + 1)).1 = os ++ l) := hd fun l h => by rw [HDK.out, h]
        have HDL : Hid (∀ l (m : Int), disA T i rs ts n ⟨nm, sy, sz, ex⟩ = l → (n : Int) + l.length - 1 = m → (disK T i rs (k + 1)).2 = ts ++ [m]) := hd fun l m h h2 => by rw [HDK.out, h]; dsimp only; rw [List.length_append, HN.out, ← h2, Int.natCast_add]
        clear hF hI hX hp hr d0 d1 d2 d3 hn s2 hil hi h1 h2 g1 g2 HDK hkl
        by_cases hA : sy = 0 ∧ sz = (i : Int)
        · obtain ⟨rfl, rfl⟩ := hA
          have HID := hd (fun w' (h : OwnF w' w.heap.size (.slice A1 n c1') os) (h2 : w.heap.size ≤ w'.heap.size) => s_l24Identity os T _ w' w.heap.size h h2 (by rw [HN.out]; omega) (by have := HTL.out; omega))
          have HD1 : Hid (disA T i rs ts n ⟨nm, 0, i, ex⟩ = idR n T) := hd (by unfold disA; rw [if_pos ⟨rfl, rfl⟩])
          replace HDF := hd (HDF.out _ HD1.out)
          replace HDL := hd (HDL.out _ ((n : Int) + 1 + 1 + 1 + 1) HD1.out (by show (n : Int) + 5 - 1 = _; omega))
          clear HD1 s1 s3 s4 s5 hty HRJ
          have HX1 := hd (HD.out.ext)
          have HO1 := hd (HD.out.own)
          have HI1 := hd (HD.out.ints)
          generalize strF T = tT at *
          go_wp2_with fail
          refine (HID.out _ HO1.out HX1.out.size).mono ?_
          rintro e w1 ⟨u1, rfl, hu1, hk1⟩
          rw [HN.out] at hu1
          have HX2 := hd (hk1.1 w HX1.out (Nat.le_refl _))
          have HI2 := hd (hk1.2.1 _ _ _ HI1.out)
          have HO2 := hd hu1
          obtain ⟨A2, c2, rfl⟩ := OwnF.form2 (n := n + 1 + 1 + 1 + 1 + 1) hu1 (by rw [List.length_append, HN.out]; rfl)
          clear hu1 hk1 HX1 HI1 HO1 HID HD k0 k1 k2 k3
          go_wp2_with (at_builtin; refine appI w1 HI2.out rfl _ _ rfl _ (by rfl) (by rfl) (by have := HKL.out; omega) HX2.out.size ?_; intro v' w5 ho1 hg1 _; have HP := hd (put_bothF rfl HX2.out HO2.out HI2.out hg1); have HO1 := hd ho1; clear ho1 hg1)
          go_roundw
          case rel => exact ⟨k + 1, by omega, by go_num, by rw [HDF.out]; exact HP.out.2, by rw [HDL.out]; exact HO1.out, HP.out.1⟩
          case measure => simp [intOf]; omega
        · by_cases hB : sy = -1
          · subst hB
            obtain ⟨j1, j2, q1, q2, rfl, rfl⟩ := s5 rfl
            have l1 : j1 < rs.length := by omega
            have l2 : j2 < rs.length := by omega
            obtain ⟨x, x1, x2, x3, x4, _⟩ := HST.out j1 l1
            obtain ⟨bb', e', m0, -, -, -⟩ := RdRec.at_ gb l1
            injection e' with e'
            subst e'
            rw [x1] at m0
            have n0 := HD.out.ext.cell m0
            have htx : treeOf (recAt rs (j1 : Int)) = x := by rw [HRJ.out j1 l1]; exact treeOf_eq x2
            obtain ⟨A8, c8, rfl, -, -, HR8⟩ := HI.out.rd.form
            have y1 : j1 < ts.length := by rw [HKL.out]; exact q1
            have y2 : j2 < ts.length := by rw [HKL.out]; exact q2
            have HD1 : Hid (disA T i rs ts n ⟨nm, -1, j1, j2⟩ = [⟨strF (putF T x y (schT 2)), 2, 0, 0⟩, ⟨strF (impF (impF T x) (impF T y)), -1, ts[j2], n⟩, ⟨strF (impF T y), -1, ts[j1], (n : Int) + 1⟩]) := hd (by
              unfold disA
              rw [if_neg hA, if_pos rfl]
              dsimp only
              rw [htx, hty, show (j1 : Int).toNat = j1 from rfl, show (j2 : Int).toNat = j2 from rfl, List.getD_eq_getElem?_getD, List.getD_eq_getElem?_getD, List.getElem?_eq_getElem y1, List.getElem?_eq_getElem y2]
              rfl)
            replace HDF := hd (HDF.out _ HD1.out)
            replace HDL := hd (HDL.out _ ((n : Int) + 1 + 1) HD1.out (by show (n : Int) + 3 - 1 = _; omega))
            rw [show (os ++ [⟨strF (putF T x y (schT 2)), 2, 0, 0⟩, ⟨strF (impF (impF T x) (impF T y)), -1, ts[j2], n⟩, ⟨strF (impF T y), -1, ts[j1], (n : Int) + 1⟩] : List Rec) = os ++ [⟨strF (putF T x y (schT 2)), 2, 0, 0⟩] ++ [⟨strF (impF (impF T x) (impF T y)), -1, ts[j2], n⟩] ++ [⟨strF (impF T y), -1, ts[j1], (n : Int) + 1⟩] from by simp] at HDF
            obtain ⟨a8, rfl, _⟩ := RdI.at_ HR8 y1
            have v2 : (j2 : Int) < (ts.length : Int) := by omega
            have v1 : (j1 : Int) < (ts.length : Int) := by omega
            have l1i : (j1 : Int) < (rs.length : Int) := by omega
            have htl := HTL.out
            have hl1 := imp_len T x
            have hl2 := imp_len T y
            have HC1 : Hid (∀ w, Calls Tryd.prog 35 #[.int .i64 2, .string (strF T), .string (strF x), .string nm] w (RetX w (.string (strF (putF T x y (schT 2)))))) := hd fun w => by rw [s1]; exact s_caseF 1 (by omega) T x y (by omega) (by omega) (by omega) w
            have HC2 : Hid (∀ w, Calls Tryd.prog 36 #[.string (strF T), .string (strF x)] w (Ret w (.string (strF (impF T x))))) := hd fun w => s_l24Implies T x w (by omega) (by omega)
            have HC3 : Hid (∀ w, Calls Tryd.prog 36 #[.string (strF T), .string nm] w (Ret w (.string (strF (impF T y))))) := hd fun w => by rw [s1]; exact s_l24Implies T y w (by omega) (by omega)
            have HC4 : Hid (∀ w, Calls Tryd.prog 36 #[.string (strF (impF T x)), .string (strF (impF T y))] w (Ret w (.string (strF (impF (impF T x) (impF T y)))))) := hd fun w => s_l24Implies (impF T x) (impF T y) w (by omega) (by omega)
            clear HD1 htl hl1 hl2 HR8 htx m0 x1 x2 x3 x4 HRJ s1 s3 s4 s5 hty
            generalize strF (putF T x y (schT 2)) = t1 at *
            generalize strF (impF (impF T x) (impF T y)) = t3 at *
            generalize strF (impF T y) = t2 at *
            generalize strF (impF T x) = t4 at *
            generalize strF T = tT at *
            generalize strF x = tx at *
            have e1 : ((-1 : Int) == 0) = false := rfl
            go_wp2_with fail
            refine (HC1.out _).mono ?_
            rintro e x1 ⟨rfl, hx⟩
            have HD3 := hd (HD.out.on hx)
            clear hx
            obtain ⟨p0, p1, p2, p3⟩ := HD3.out.cells
            clear k0 k1 k2 k3
            go_wp2_with (at_builtin; refine appD _ t1 2 0 0 HD3.out rfl _ _ rfl (by rfl) (by rfl) (by simp) (by omega) HN.out ?_; intro A2 c2 w2 hD2; have HD2 := hd hD2; clear hD2 p0 p1 p2 p3)
            obtain ⟨o0, o1, o2, o3⟩ := HD2.out.cells
            obtain ⟨_, ea, z1⟩ := RdI.at_ (hd HD2.out.ints.rd) y1
            injection ea with ea
            subst ea
            obtain ⟨_, ea, z2⟩ := RdI.at_ (hd HD2.out.ints.rd) y2
            injection ea with ea
            subst ea
            generalize hg2 : ts[j2] = tv2 at *
            generalize hg1 : ts[j1] = tv1 at *
            generalize wr.heap.size = bx at *
            have HT1 := hd hg1
            have HT2 := hd hg2
            clear hg1 hg2
            have hw : IntKind.i64.wrap (n : Int) = (n : Int) := IntWalk.i64_in _ (by omega)
            refine wp_region_sink (fun w' => (w').cell? ⟨bx, 0, none⟩ = some (.string nm) ∧ (w').cell? ⟨bx, 3, none⟩ = some (.int .i64 (j2 : Int)) ∧ (w').cell? (a8.add j2) = some (.int .i64 tv2)) 20 21 #[false, false, false, false, false, false, false, false, false, false, false, false, false, false, false, false, false, false, false, false, false] (by kernel_rfl) (by kernel_rfl) (by kernel_rfl) ?_
            have HS : (w2.drew).cell? ⟨bx, 0, none⟩ = some (.string nm) ∧ (w2.drew).cell? ⟨bx, 3, none⟩ = some (.int .i64 (j2 : Int)) ∧ (w2.drew).cell? (a8.add j2) = some (.int .i64 tv2) := ⟨o0, o3, z2⟩
            refine' ordG_take 0 (oi := _) (v := _) ?_ ?_ ?_ (Or.inl ⟨?_, ?_⟩) ?_ ?_
            rotate_left 2
            · (simp only [List.getElem?_toArray, List.getElem?_cons_zero]; rfl)
            · kernel_rfl
            · exact fun _ _ _ h => h
            · rfl
            · (intro w hSw; (try dsimp only at hSw); go_simp; (try with_reducible rfl))
            · exact HS
            (try simp only [Act.put, List.setIfInBounds_toArray, List.set_cons_zero, List.set_cons_succ])
            refine' ordG_take 1 (oi := _) (v := _) ?_ ?_ ?_ (Or.inl ⟨?_, ?_⟩) ?_ ?_
            rotate_left 2
            · (simp only [List.getElem?_toArray, List.getElem?_cons_zero, List.getElem?_cons_succ]; rfl)
            · kernel_rfl
            · exact fun _ _ _ h => h
            · rfl
            · (intro w hSw; (try dsimp only at hSw); go_simp; (try with_reducible rfl))
            · exact HS
            (try simp only [Act.put, List.setIfInBounds_toArray, List.set_cons_zero, List.set_cons_succ])
            refine' ordG_take 2 (oi := _) (v := _) ?_ ?_ ?_ (Or.inl ⟨?_, ?_⟩) ?_ ?_
            rotate_left 2
            · (simp only [List.getElem?_toArray, List.getElem?_cons_zero, List.getElem?_cons_succ]; rfl)
            · kernel_rfl
            · exact fun _ _ _ h => h
            · rfl
            · (intro w hSw; (try dsimp only at hSw); go_simp; (try with_reducible rfl))
            · exact HS
            (try simp only [Act.put, List.setIfInBounds_toArray, List.set_cons_zero, List.set_cons_succ])
            refine' ordG_take 4 (oi := _) (v := _) ?_ ?_ ?_ (Or.inl ⟨?_, ?_⟩) ?_ ?_
            rotate_left 2
            · (simp only [List.getElem?_toArray, List.getElem?_cons_zero, List.getElem?_cons_succ]; rfl)
            · kernel_rfl
            · exact fun _ _ _ h => h
            · rfl
            · (intro w hSw; (try dsimp only at hSw); go_simp; (try with_reducible rfl))
            · exact HS
            (try simp only [Act.put, List.setIfInBounds_toArray, List.set_cons_zero, List.set_cons_succ])
            refine' ordG_take 5 (oi := _) (v := _) ?_ ?_ ?_ (Or.inl ⟨?_, ?_⟩) ?_ ?_
            rotate_left 2
            · (simp only [List.getElem?_toArray, List.getElem?_cons_zero, List.getElem?_cons_succ]; rfl)
            · kernel_rfl
            · exact fun _ _ _ h => h
            · rfl
            · (intro w hSw; (try dsimp only at hSw); go_simp; (try with_reducible rfl))
            · exact HS
            (try simp only [Act.put, List.setIfInBounds_toArray, List.set_cons_zero, List.set_cons_succ])
            refine' ordG_take 6 (oi := _) (v := _) ?_ ?_ ?_ (Or.inl ⟨?_, ?_⟩) ?_ ?_
            rotate_left 2
            · (simp only [List.getElem?_toArray, List.getElem?_cons_zero, List.getElem?_cons_succ]; rfl)
            · kernel_rfl
            · exact fun _ _ _ h => h
            · rfl
            · (intro w hSw; (try dsimp only at hSw); go_simp; (try with_reducible rfl))
            · exact HS
            (try simp only [Act.put, List.setIfInBounds_toArray, List.set_cons_zero, List.set_cons_succ])
            refine' ordG_take 9 (oi := _) (v := _) ?_ ?_ ?_ (Or.inl ⟨?_, ?_⟩) ?_ ?_
            rotate_left 2
            · (simp only [List.getElem?_toArray, List.getElem?_cons_zero, List.getElem?_cons_succ]; rfl)
            · kernel_rfl
            · exact fun _ _ _ h => h
            · rfl
            · (intro w hSw; (try dsimp only at hSw); go_simp; (try with_reducible rfl))
            · exact HS
            (try simp only [Act.put, List.setIfInBounds_toArray, List.set_cons_zero, List.set_cons_succ])
            refine' ordG_take 10 (oi := _) (v := _) ?_ ?_ ?_ (Or.inl ⟨?_, ?_⟩) ?_ ?_
            rotate_left 2
            · (simp only [List.getElem?_toArray, List.getElem?_cons_zero, List.getElem?_cons_succ]; rfl)
            · kernel_rfl
            · exact fun _ _ _ h => h
            · rfl
            · (intro w hSw; (try dsimp only at hSw); go_simp; (try with_reducible rfl))
            · exact HS
            (try simp only [Act.put, List.setIfInBounds_toArray, List.set_cons_zero, List.set_cons_succ])
            refine' ordG_take 11 (oi := _) (v := _) ?_ ?_ ?_ (Or.inl ⟨?_, ?_⟩) ?_ ?_
            rotate_left 2
            · (simp only [List.getElem?_toArray, List.getElem?_cons_zero, List.getElem?_cons_succ]; rfl)
            · kernel_rfl
            · exact fun _ _ _ h => h
            · rfl
            · (intro w hSw; (try dsimp only at hSw); go_simp; (try with_reducible rfl))
            · exact HS
            (try simp only [Act.put, List.setIfInBounds_toArray, List.set_cons_zero, List.set_cons_succ])
            refine' ordG_take 12 (oi := _) (v := _) ?_ ?_ ?_ (Or.inl ⟨?_, ?_⟩) ?_ ?_
            rotate_left 2
            · (simp only [List.getElem?_toArray, List.getElem?_cons_zero, List.getElem?_cons_succ]; rfl)
            · kernel_rfl
            · exact fun _ _ _ h => h
            · rfl
            · (intro w hSw; (try dsimp only at hSw); go_simp; (try with_reducible rfl))
            · exact HS
            (try simp only [Act.put, List.setIfInBounds_toArray, List.set_cons_zero, List.set_cons_succ])
            refine' ordG_take 13 (oi := _) (v := _) ?_ ?_ ?_ (Or.inl ⟨?_, ?_⟩) ?_ ?_
            rotate_left 2
            · (simp only [List.getElem?_toArray, List.getElem?_cons_zero, List.getElem?_cons_succ]; rfl)
            · kernel_rfl
            · exact fun _ _ _ h => h
            · rfl
            · (intro w hSw; (try dsimp only at hSw); go_simp; (try with_reducible rfl))
            · exact HS
            (try simp only [Act.put, List.setIfInBounds_toArray, List.set_cons_zero, List.set_cons_succ])
            refine' ordG_take 14 (oi := _) (v := _) ?_ ?_ ?_ (Or.inl ⟨?_, ?_⟩) ?_ ?_
            rotate_left 2
            · (simp only [List.getElem?_toArray, List.getElem?_cons_zero, List.getElem?_cons_succ]; rfl)
            · kernel_rfl
            · exact fun _ _ _ h => h
            · rfl
            · (intro w hSw; (try dsimp only at hSw); go_simp; (try with_reducible rfl))
            · exact HS
            (try simp only [Act.put, List.setIfInBounds_toArray, List.set_cons_zero, List.set_cons_succ])
            refine' ordG_take 15 (oi := _) (v := _) ?_ ?_ ?_ (Or.inl ⟨?_, ?_⟩) ?_ ?_
            rotate_left 2
            · (simp only [List.getElem?_toArray, List.getElem?_cons_zero, List.getElem?_cons_succ]; rfl)
            · kernel_rfl
            · exact fun _ _ _ h => h
            · rfl
            · (intro w hSw; (try dsimp only at hSw); go_simp; (try with_reducible rfl))
            · exact HS
            (try simp only [Act.put, List.setIfInBounds_toArray, List.set_cons_zero, List.set_cons_succ])
            refine' ordG_take 16 (oi := _) (v := _) ?_ ?_ ?_ (Or.inl ⟨?_, ?_⟩) ?_ ?_
            rotate_left 2
            · (simp only [List.getElem?_toArray, List.getElem?_cons_zero, List.getElem?_cons_succ]; rfl)
            · kernel_rfl
            · exact fun _ _ _ h => h
            · rfl
            · (intro w hSw; (try dsimp only at hSw); go_simp; (try with_reducible rfl))
            · exact HS
            (try simp only [Act.put, List.setIfInBounds_toArray, List.set_cons_zero, List.set_cons_succ])
            refine ordG_all (rs := [3]) (by kernel_rfl) (by simp) (by decide) ?_
            refine' ordG_cons (o := _) ?_ (fun K hK => ?_) ordG_nil
            rotate_left 1
            · (simp only [List.getElem?_toArray, List.getElem?_cons_zero, List.getElem?_cons_succ]; rfl)
            go_simp
            go_at_call 36
            refine (HC2.out _).mono ?_
            rintro e w1 ⟨rfl, rfl⟩
            go_simp
            refine hK.out _ _ HS ?_
            clear hK K
            (try simp only [Act.put, List.setIfInBounds_toArray, List.set_cons_zero, List.set_cons_succ])
            refine ordG_all (rs := [7]) (by kernel_rfl) (by simp) (by decide) ?_
            refine' ordG_cons (o := _) ?_ (fun K hK => ?_) ordG_nil
            rotate_left 1
            · (simp only [List.getElem?_toArray, List.getElem?_cons_zero, List.getElem?_cons_succ]; rfl)
            go_simp
            go_at_call 36
            refine (HC3.out _).mono ?_
            rintro e w1 ⟨rfl, rfl⟩
            go_simp
            refine hK.out _ _ HS ?_
            clear hK K
            (try simp only [Act.put, List.setIfInBounds_toArray, List.set_cons_zero, List.set_cons_succ])
            refine ordG_all (rs := [8]) (by kernel_rfl) (by simp) (by decide) ?_
            refine' ordG_cons (o := _) ?_ (fun K hK => ?_) ordG_nil
            rotate_left 1
            · (simp only [List.getElem?_toArray, List.getElem?_cons_zero, List.getElem?_cons_succ]; rfl)
            go_simp
            go_at_call 36
            refine (HC4.out _).mono ?_
            rintro e w1 ⟨rfl, rfl⟩
            go_simp
            refine hK.out _ _ HS ?_
            clear hK K
            (try simp only [Act.put, List.setIfInBounds_toArray, List.set_cons_zero, List.set_cons_succ])
            refine' ordG_take 17 (oi := _) (v := _) ?_ ?_ ?_ (Or.inl ⟨?_, ?_⟩) ?_ ?_
            rotate_left 2
            · (simp only [List.getElem?_toArray, List.getElem?_cons_zero, List.getElem?_cons_succ]; rfl)
            · kernel_rfl
            · exact fun _ _ _ h => h
            · rfl
            · (intro w hSw; (try dsimp only at hSw); go_simp; (try with_reducible rfl))
            · exact HS
            (try simp only [Act.put, List.setIfInBounds_toArray, List.set_cons_zero, List.set_cons_succ])
            refine ordG_all (rs := [18]) (by kernel_rfl) (by simp) (by decide) ?_
            refine' ordG_cons (o := _) ?_ (fun K hK => ?_) ordG_nil
            rotate_left 1
            · (simp only [List.getElem?_toArray, List.getElem?_cons_zero, List.getElem?_cons_succ]; rfl)
            go_simp
            have YA : Ext w2 ((w2.alloc (.cells #[.string t3, .int .i64 (-1), .int .i64 tv2, .int .i64 (n : Int)] 42)).drew) := (Ext.new _ _).drew
            refine hK.out _ _ ⟨YA.cell o0, YA.cell o3, YA.cell z2⟩ ?_
            clear hK K
            (try simp only [Act.put, List.setIfInBounds_toArray, List.set_cons_zero, List.set_cons_succ])
            refine ordG_all (rs := [19]) (by kernel_rfl) (by simp) (by decide) ?_
            refine' ordG_cons (o := _) ?_ (fun K hK => ?_) ordG_nil
            rotate_left 1
            · (simp only [List.getElem?_toArray, List.getElem?_cons_zero, List.getElem?_cons_succ]; rfl)
            refine stepD _ ⟨t3, -1, tv2, n⟩ (HD2.out.on YA) (rd_blk (s := 4) (us := recCells [⟨t3, -1, tv2, n⟩]) (blk_new (w := w2) (.cells #[.string t3, .int .i64 (-1), .int .i64 tv2, .int .i64 (n : Int)] 42) rfl) rfl rfl (by unfold maxLen; omega)) rfl _ _ rfl (by rfl) (by rfl) (by omega) (by rw [List.length_append, HN.out]; rfl) ?_
            intro A3 c3 w3 hD4
            have HD4 := hd hD4
            obtain ⟨o0', o1', o2', o3'⟩ := HD4.out.cells
            obtain ⟨_, ea, z1'⟩ := RdI.at_ (hd HD4.out.ints.rd) y1
            injection ea with ea
            subst ea
            obtain ⟨_, ea, z2'⟩ := RdI.at_ (hd HD4.out.ints.rd) y2
            injection ea with ea
            subst ea
            rw [HT1.out] at z1'
            rw [HT2.out] at z2'
            refine hK.out _ _ ⟨o0', o3', z2'⟩ ?_
            clear hK K hD4
            (try simp only [Act.put, List.setIfInBounds_toArray, List.set_cons_zero, List.set_cons_succ])
            refine ordG_last (by kernel_rfl) (by kernel_rfl) ?_
            refine' wpOp_step (o := _) ?_ (fun K hK => ?_)
            rotate_left 1
            · (simp only [List.getElem?_toArray, List.getElem?_cons_zero, List.getElem?_cons_succ]; rfl)
            go_simp
            refine hK _ _ ?_
            clear hK K HS YA o0 o1 o2 o3 z1 z2 HD2
            (try simp only [Act.put, List.setIfInBounds_toArray, List.set_cons_zero, List.set_cons_succ])
            go_wp2_with fail
            have hw2 : IntKind.i64.wrap ((n : Int) + 1) = (n : Int) + 1 := IntWalk.i64_in _ (by omega)
            refine wp_region_sink (fun w' => (w').cell? ⟨bx, 0, none⟩ = some (.string nm) ∧ (w').cell? ⟨bx, 2, none⟩ = some (.int .i64 (j1 : Int)) ∧ (w').cell? (a8.add j1) = some (.int .i64 tv1)) 16 17 #[false, false, false, false, false, false, false, false, false, false, false, false, false, false, false, false, false] (by kernel_rfl) (by kernel_rfl) (by kernel_rfl) ?_
            have HS : (w3.drew).cell? ⟨bx, 0, none⟩ = some (.string nm) ∧ (w3.drew).cell? ⟨bx, 2, none⟩ = some (.int .i64 (j1 : Int)) ∧ (w3.drew).cell? (a8.add j1) = some (.int .i64 tv1) := ⟨o0', o2', z1'⟩
            refine' ordG_take 0 (oi := _) (v := _) ?_ ?_ ?_ (Or.inl ⟨?_, ?_⟩) ?_ ?_
            rotate_left 2
            · (simp only [List.getElem?_toArray, List.getElem?_cons_zero]; rfl)
            · kernel_rfl
            · exact fun _ _ _ h => h
            · rfl
            · (intro w hSw; (try dsimp only at hSw); go_simp; (try with_reducible rfl))
            · exact HS
            (try simp only [Act.put, List.setIfInBounds_toArray, List.set_cons_zero, List.set_cons_succ])
            refine' ordG_take 1 (oi := _) (v := _) ?_ ?_ ?_ (Or.inl ⟨?_, ?_⟩) ?_ ?_
            rotate_left 2
            · (simp only [List.getElem?_toArray, List.getElem?_cons_zero, List.getElem?_cons_succ]; rfl)
            · kernel_rfl
            · exact fun _ _ _ h => h
            · rfl
            · (intro w hSw; (try dsimp only at hSw); go_simp; (try with_reducible rfl))
            · exact HS
            (try simp only [Act.put, List.setIfInBounds_toArray, List.set_cons_zero, List.set_cons_succ])
            refine' ordG_take 2 (oi := _) (v := _) ?_ ?_ ?_ (Or.inl ⟨?_, ?_⟩) ?_ ?_
            rotate_left 2
            · (simp only [List.getElem?_toArray, List.getElem?_cons_zero, List.getElem?_cons_succ]; rfl)
            · kernel_rfl
            · exact fun _ _ _ h => h
            · rfl
            · (intro w hSw; (try dsimp only at hSw); go_simp; (try with_reducible rfl))
            · exact HS
            (try simp only [Act.put, List.setIfInBounds_toArray, List.set_cons_zero, List.set_cons_succ])
            refine' ordG_take 3 (oi := _) (v := _) ?_ ?_ ?_ (Or.inl ⟨?_, ?_⟩) ?_ ?_
            rotate_left 2
            · (simp only [List.getElem?_toArray, List.getElem?_cons_zero, List.getElem?_cons_succ]; rfl)
            · kernel_rfl
            · exact fun _ _ _ h => h
            · rfl
            · (intro w hSw; (try dsimp only at hSw); go_simp; (try with_reducible rfl))
            · exact HS
            (try simp only [Act.put, List.setIfInBounds_toArray, List.set_cons_zero, List.set_cons_succ])
            refine' ordG_take 5 (oi := _) (v := _) ?_ ?_ ?_ (Or.inl ⟨?_, ?_⟩) ?_ ?_
            rotate_left 2
            · (simp only [List.getElem?_toArray, List.getElem?_cons_zero, List.getElem?_cons_succ]; rfl)
            · kernel_rfl
            · exact fun _ _ _ h => h
            · rfl
            · (intro w hSw; (try dsimp only at hSw); go_simp; (try with_reducible rfl))
            · exact HS
            (try simp only [Act.put, List.setIfInBounds_toArray, List.set_cons_zero, List.set_cons_succ])
            refine' ordG_take 6 (oi := _) (v := _) ?_ ?_ ?_ (Or.inl ⟨?_, ?_⟩) ?_ ?_
            rotate_left 2
            · (simp only [List.getElem?_toArray, List.getElem?_cons_zero, List.getElem?_cons_succ]; rfl)
            · kernel_rfl
            · exact fun _ _ _ h => h
            · rfl
            · (intro w hSw; (try dsimp only at hSw); go_simp; (try with_reducible rfl))
            · exact HS
            (try simp only [Act.put, List.setIfInBounds_toArray, List.set_cons_zero, List.set_cons_succ])
            refine' ordG_take 7 (oi := _) (v := _) ?_ ?_ ?_ (Or.inl ⟨?_, ?_⟩) ?_ ?_
            rotate_left 2
            · (simp only [List.getElem?_toArray, List.getElem?_cons_zero, List.getElem?_cons_succ]; rfl)
            · kernel_rfl
            · exact fun _ _ _ h => h
            · rfl
            · (intro w hSw; (try dsimp only at hSw); go_simp; (try with_reducible rfl))
            · exact HS
            (try simp only [Act.put, List.setIfInBounds_toArray, List.set_cons_zero, List.set_cons_succ])
            refine' ordG_take 8 (oi := _) (v := _) ?_ ?_ ?_ (Or.inl ⟨?_, ?_⟩) ?_ ?_
            rotate_left 2
            · (simp only [List.getElem?_toArray, List.getElem?_cons_zero, List.getElem?_cons_succ]; rfl)
            · kernel_rfl
            · exact fun _ _ _ h => h
            · rfl
            · (intro w hSw; (try dsimp only at hSw); go_simp; (try with_reducible rfl))
            · exact HS
            (try simp only [Act.put, List.setIfInBounds_toArray, List.set_cons_zero, List.set_cons_succ])
            refine' ordG_take 9 (oi := _) (v := _) ?_ ?_ ?_ (Or.inl ⟨?_, ?_⟩) ?_ ?_
            rotate_left 2
            · (simp only [List.getElem?_toArray, List.getElem?_cons_zero, List.getElem?_cons_succ]; rfl)
            · kernel_rfl
            · exact fun _ _ _ h => h
            · rfl
            · (intro w hSw; (try dsimp only at hSw); go_simp; (try with_reducible rfl))
            · exact HS
            (try simp only [Act.put, List.setIfInBounds_toArray, List.set_cons_zero, List.set_cons_succ])
            refine' ordG_take 10 (oi := _) (v := _) ?_ ?_ ?_ (Or.inl ⟨?_, ?_⟩) ?_ ?_
            rotate_left 2
            · (simp only [List.getElem?_toArray, List.getElem?_cons_zero, List.getElem?_cons_succ]; rfl)
            · kernel_rfl
            · exact fun _ _ _ h => h
            · rfl
            · (intro w hSw; (try dsimp only at hSw); go_simp; (try with_reducible rfl))
            · exact HS
            (try simp only [Act.put, List.setIfInBounds_toArray, List.set_cons_zero, List.set_cons_succ])
            refine' ordG_take 11 (oi := _) (v := _) ?_ ?_ ?_ (Or.inl ⟨?_, ?_⟩) ?_ ?_
            rotate_left 2
            · (simp only [List.getElem?_toArray, List.getElem?_cons_zero, List.getElem?_cons_succ]; rfl)
            · kernel_rfl
            · exact fun _ _ _ h => h
            · rfl
            · (intro w hSw; (try dsimp only at hSw); go_simp; (try with_reducible rfl))
            · exact HS
            (try simp only [Act.put, List.setIfInBounds_toArray, List.set_cons_zero, List.set_cons_succ])
            refine' ordG_take 12 (oi := _) (v := _) ?_ ?_ ?_ (Or.inl ⟨?_, ?_⟩) ?_ ?_
            rotate_left 2
            · (simp only [List.getElem?_toArray, List.getElem?_cons_zero, List.getElem?_cons_succ]; rfl)
            · kernel_rfl
            · exact fun _ _ _ h => h
            · rfl
            · (intro w hSw; (try dsimp only at hSw); go_simp; (try with_reducible rfl))
            · exact HS
            (try simp only [Act.put, List.setIfInBounds_toArray, List.set_cons_zero, List.set_cons_succ])
            refine ordG_all (rs := [4]) (by kernel_rfl) (by simp) (by decide) ?_
            refine' ordG_cons (o := _) ?_ (fun K hK => ?_) ordG_nil
            rotate_left 1
            · (simp only [List.getElem?_toArray, List.getElem?_cons_zero, List.getElem?_cons_succ]; rfl)
            go_simp
            go_at_call 36
            refine (HC3.out _).mono ?_
            rintro e w1 ⟨rfl, rfl⟩
            go_simp
            refine hK.out _ _ HS ?_
            clear hK K
            (try simp only [Act.put, List.setIfInBounds_toArray, List.set_cons_zero, List.set_cons_succ])
            refine' ordG_take 13 (oi := _) (v := _) ?_ ?_ ?_ (Or.inl ⟨?_, ?_⟩) ?_ ?_
            rotate_left 2
            · (simp only [List.getElem?_toArray, List.getElem?_cons_zero, List.getElem?_cons_succ]; rfl)
            · kernel_rfl
            · exact fun _ _ _ h => h
            · rfl
            · (intro w hSw; (try dsimp only at hSw); go_simp; (try with_reducible rfl))
            · exact HS
            (try simp only [Act.put, List.setIfInBounds_toArray, List.set_cons_zero, List.set_cons_succ])
            refine ordG_all (rs := [14]) (by kernel_rfl) (by simp) (by decide) ?_
            refine' ordG_cons (o := _) ?_ (fun K hK => ?_) ordG_nil
            rotate_left 1
            · (simp only [List.getElem?_toArray, List.getElem?_cons_zero, List.getElem?_cons_succ]; rfl)
            go_simp
            have YA : Ext w3 ((w3.alloc (.cells #[.string t2, .int .i64 (-1), .int .i64 tv1, .int .i64 ((n : Int) + 1)] 42)).drew) := (Ext.new _ _).drew
            refine hK.out _ _ ⟨YA.cell o0', YA.cell o2', YA.cell z1'⟩ ?_
            clear hK K
            (try simp only [Act.put, List.setIfInBounds_toArray, List.set_cons_zero, List.set_cons_succ])
            refine ordG_all (rs := [15]) (by kernel_rfl) (by simp) (by decide) ?_
            refine' ordG_cons (o := _) ?_ (fun K hK => ?_) ordG_nil
            rotate_left 1
            · (simp only [List.getElem?_toArray, List.getElem?_cons_zero, List.getElem?_cons_succ]; rfl)
            refine stepD _ ⟨t2, -1, tv1, (n : Int) + 1⟩ (HD4.out.on YA) (rd_blk (s := 4) (us := recCells [⟨t2, -1, tv1, (n : Int) + 1⟩]) (blk_new (w := w3) (.cells #[.string t2, .int .i64 (-1), .int .i64 tv1, .int .i64 ((n : Int) + 1)] 42) rfl) rfl rfl (by unfold maxLen; omega)) rfl _ _ rfl (by rfl) (by rfl) (by omega) (by rw [List.length_append, List.length_append, HN.out]; rfl) ?_
            intro A4 c4 w4 hD5
            have HD5 := hd hD5
            obtain ⟨o0, o1, o2, o3⟩ := HD5.out.cells
            obtain ⟨_, ea, z1⟩ := RdI.at_ (hd HD5.out.ints.rd) y1
            injection ea with ea
            subst ea
            rw [HT1.out] at z1
            refine hK.out _ _ ⟨o0, o2, z1⟩ ?_
            clear hK K hD5
            (try simp only [Act.put, List.setIfInBounds_toArray, List.set_cons_zero, List.set_cons_succ])
            refine ordG_last (by kernel_rfl) (by kernel_rfl) ?_
            refine' wpOp_step (o := _) ?_ (fun K hK => ?_)
            rotate_left 1
            · (simp only [List.getElem?_toArray, List.getElem?_cons_zero, List.getElem?_cons_succ]; rfl)
            go_simp
            refine hK _ _ ?_
            clear hK K HS YA o0 o1 o2 o3 o0' o1' o2' o3' z1 z1' z2' HD4 hw hw2
            (try simp only [Act.put, List.setIfInBounds_toArray, List.set_cons_zero, List.set_cons_succ])
            go_wp2_with (at_builtin; refine appI w4 HD5.out.ints rfl _ _ rfl _ (by rfl) (by rfl) (by have := HKL.out; omega) HD5.out.ext.size ?_; intro v' w5 ho1 hg1 _; have HP := hd (put_bothF rfl HD5.out.ext HD5.out.own HD5.out.ints hg1); have HO1 := hd ho1; clear ho1 hg1)
            go_roundw
            case rel => exact ⟨k + 1, by omega, by go_num, by rw [HDF.out]; exact HP.out.2, by rw [HDL.out]; exact HO1.out, HP.out.1⟩
            case measure => simp [intOf]; omega
          · have HD1 : Hid (disA T i rs ts n ⟨nm, sy, sz, ex⟩ = [⟨nm, sy, sz, ex⟩, ⟨strF (putF y T T (schT 1)), 1, 0, 0⟩, ⟨strF (impF T y), -1, n, (n : Int) + 1⟩]) := hd (by unfold disA; rw [if_neg hA, if_neg hB, hty])
            replace HDF := hd (HDF.out _ HD1.out)
            replace HDL := hd (HDL.out _ ((n : Int) + 1 + 1) HD1.out (by show (n : Int) + 3 - 1 = _; omega))
            rw [show (os ++ [⟨nm, sy, sz, ex⟩, ⟨strF (putF y T T (schT 1)), 1, 0, 0⟩, ⟨strF (impF T y), -1, n, (n : Int) + 1⟩] : List Rec) = os ++ [⟨nm, sy, sz, ex⟩] ++ [⟨strF (putF y T T (schT 1)), 1, 0, 0⟩] ++ [⟨strF (impF T y), -1, n, (n : Int) + 1⟩] from by simp] at HDF
            have HC1 : Hid (∀ w, Calls Tryd.prog 35 #[.int .i64 1, .string nm, .string (strF T), .string (strF T)] w (RetX w (.string (strF (putF y T T (schT 1)))))) := hd fun w => by rw [s1]; exact s_caseF 0 (by omega) y T T (by omega) (by have := HTL.out; omega) (by have := HTL.out; omega) w
            have HC2 : Hid (∀ w, Calls Tryd.prog 36 #[.string (strF T), .string nm] w (Ret w (.string (strF (impF T y))))) := hd fun w => by rw [s1]; exact s_l24Implies T y w (by have := HTL.out; omega) (by omega)
            clear HD1
            generalize strF (putF y T T (schT 1)) = t1 at *
            generalize strF (impF T y) = t2 at *
            generalize strF T = tT at *
            clear s1 s3 s4 s5 hty HRJ
            have e2 : (sy == -1) = false := by simpa using hB
            by_cases hz : sy = 0
            · subst hz
              have e3 : (sz == (i : Int)) = false := by simp; intro h; exact hA ⟨rfl, h⟩
              go_wp2_with (at_builtin; refine appD _ nm 0 sz ex HD.out rfl _ _ rfl (by rfl) (by rfl) (by simp) (by omega) HN.out ?_; intro A2 c2 w2 hD2; have HD2 := hd hD2; obtain ⟨o0, o1, o2, o3⟩ := HD2.out.cells; clear hD2)
              refine (HC1.out _).mono ?_
              rintro e x1 ⟨rfl, hx⟩
              have HD3 := hd (HD2.out.on hx)
              clear hx
              obtain ⟨p0, p1, p2, p3⟩ := HD3.out.cells
              clear HD2 k0 k1 k2 k3 o0 o1 o2 o3
              go_wp2_with (at_builtin; refine appD _ t1 1 0 0 HD3.out rfl _ _ rfl (by rfl) (by rfl) (by simp) (by omega) (by rw [List.length_append, HN.out]; rfl) ?_; intro A3 c3 w3 hD4; have HD4 := hd hD4; obtain ⟨q0, q1, q2, q3⟩ := HD4.out.cells; clear hD4 HD3 p0 p1 p2 p3)
              refine (HC2.out _).mono ?_
              rintro e x2 ⟨rfl, rfl⟩
              go_wp2_with (first | (at_builtin; refine appD _ t2 (-1) ((n : Int) + 1 + 1 - 2) ((n : Int) + 1) HD4.out rfl _ _ rfl (by rfl) (by rfl) (by simp) (by omega) (by rw [List.length_append, List.length_append, HN.out]; rfl) ?_; intro A4 c4 w4 hD5; rw [show (n : Int) + 1 + 1 - 2 = n from by omega] at hD5; have HD5 := hd hD5; clear hD5 HD4 q0 q1 q2 q3) | (at_builtin; refine appI w4 HD5.out.ints rfl _ _ rfl _ (by rfl) (by rfl) (by have := HKL.out; omega) HD5.out.ext.size ?_; intro v' w5 ho1 hg1 _; have HP := hd (put_bothF rfl HD5.out.ext HD5.out.own HD5.out.ints hg1); have HO1 := hd ho1; clear ho1 hg1))
              go_roundw
              case rel => exact ⟨k + 1, by omega, by go_num, by rw [HDF.out]; exact HP.out.2, by rw [HDL.out]; exact HO1.out, HP.out.1⟩
              case measure => simp [intOf]; omega
            · have e1 : (sy == 0) = false := by simpa using hz
              go_wp2_with (at_builtin; refine appD _ nm sy sz ex HD.out rfl _ _ rfl (by rfl) (by rfl) (by simp) (by omega) HN.out ?_; intro A2 c2 w2 hD2; have HD2 := hd hD2; obtain ⟨o0, o1, o2, o3⟩ := HD2.out.cells; clear hD2)
              refine (HC1.out _).mono ?_
              rintro e x1 ⟨rfl, hx⟩
              have HD3 := hd (HD2.out.on hx)
              clear hx
              obtain ⟨p0, p1, p2, p3⟩ := HD3.out.cells
              clear HD2 k0 k1 k2 k3 o0 o1 o2 o3
              go_wp2_with (at_builtin; refine appD _ t1 1 0 0 HD3.out rfl _ _ rfl (by rfl) (by rfl) (by simp) (by omega) (by rw [List.length_append, HN.out]; rfl) ?_; intro A3 c3 w3 hD4; have HD4 := hd hD4; obtain ⟨q0, q1, q2, q3⟩ := HD4.out.cells; clear hD4 HD3 p0 p1 p2 p3)
              refine (HC2.out _).mono ?_
              rintro e x2 ⟨rfl, rfl⟩
              go_wp2_with (first | (at_builtin; refine appD _ t2 (-1) ((n : Int) + 1 + 1 - 2) ((n : Int) + 1) HD4.out rfl _ _ rfl (by rfl) (by rfl) (by simp) (by omega) (by rw [List.length_append, List.length_append, HN.out]; rfl) ?_; intro A4 c4 w4 hD5; rw [show (n : Int) + 1 + 1 - 2 = n from by omega] at hD5; have HD5 := hd hD5; clear hD5 HD4 q0 q1 q2 q3) | (at_builtin; refine appI w4 HD5.out.ints rfl _ _ rfl _ (by rfl) (by rfl) (by have := HKL.out; omega) HD5.out.ext.size ?_; intro v' w5 ho1 hg1 _; have HP := hd (put_bothF rfl HD5.out.ext HD5.out.own HD5.out.ints hg1); have HO1 := hd ho1; clear ho1 hg1))
              go_roundw
              case rel => exact ⟨k + 1, by omega, by go_num, by rw [HDF.out]; exact HP.out.2, by rw [HDL.out]; exact HO1.out, HP.out.1⟩
              case measure => simp [intOf]; omega
      · go_wp2
        go_ret
        have hke : k = rs.length := by omega
        subst hke
        exact ⟨_, rfl, by rw [HDR.out]; exact hF, hX⟩
end Go.Proofs.YtapgpjhogdmjbaaDoor
