/-
  ParityCnf: the program's side. Conditions: sizes up to 2^20.
-/
import Derived.Test.YtgkifandgacncaaParI
import Derived.Test.YtgkifandgacncaaParV
namespace Go.Proofs.Ytgkifandgacncaa
open Go.RowKit
theorem map_take_snoc {xs : List Int} {k : Nat} (h : k < xs.length) : (xs.take (k + 1)).map (· + 1) = (xs.take k).map (· + 1) ++ [xs[k] + 1] := by
  rw [List.take_succ_eq_append_getElem h, List.map_append]; rfl
set_option maxRecDepth 100000 in
set_option maxHeartbeats 6400000 in
theorem i_ParityCnf (g : Chg) (gv : Value) (w : World) (h : RdC w gv g) (hbd : Bd_Charged g) (_ : I64_Charged g) : Calls Try.prog 9 #[gv] w (RetN w (parV g) (goodC g)) := by
  have HG := hd h
  obtain ⟨ve, vc, rfl, hE, hC⟩ := h
  obtain ⟨A, c, rfl, h1, h2, ha⟩ := hE.form
  obtain ⟨A', c', rfl, h3, h4, ha'⟩ := hC.form
  clear hE hC
  have X0 : Hid (Ext w ((w.alloc (.cells #[.int .i64 g.n, .slice A g.es.length c, .slice A' g.cs.length c'] 32)).alloc (.cells #[.int .i64 0, .slice none 0 0] 29))) := hd ((Ext.new _ _).alloc _)
  have BX : Hid (∀ w' : World, Ext ((w.alloc (.cells #[.int .i64 g.n, .slice A g.es.length c, .slice A' g.cs.length c'] 32)).alloc (.cells #[.int .i64 0, .slice none 0 0] 29)) w' → w'.cell? ⟨w.heap.size, 0, none⟩ = some (.int .i64 g.n) ∧ w'.cell? ⟨w.heap.size, 1, none⟩ = some (.slice A g.es.length c) ∧ w'.cell? ⟨w.heap.size, 2, none⟩ = some (.slice A' g.cs.length c')) := hd fun w' hx => blk3 (hx.heap (blk_old (blk_new (w := w) (.cells #[.int .i64 g.n, .slice A g.es.length c, .slice A' g.cs.length c'] 32) rfl)))
  have RX : Hid (∀ w' : World, Ext ((w.alloc (.cells #[.int .i64 g.n, .slice A g.es.length c, .slice A' g.cs.length c'] 32)).alloc (.cells #[.int .i64 0, .slice none 0 0] 29)) w' → w'.heap[w.heap.size + 1]? = some (.cells #[.int .i64 0, .slice none 0 0] 29)) := hd fun w' hx => hx.heap (blk_new _ (by simp))
  obtain ⟨W0, hW0⟩ : ∃ W0, W0 = (w.alloc (.cells #[.int .i64 g.n, .slice A g.es.length c, .slice A' g.cs.length c'] 32)).alloc (.cells #[.int .i64 0, .slice none 0 0] 29) := ⟨_, rfl⟩
  have hz0 : w.heap.size + 2 = W0.heap.size := by rw [hW0]; simp
  have HW0 := hd hW0
  rw [← hW0] at X0 BX RX
  clear hW0
  obtain ⟨q, hq⟩ : ∃ q, goodC g = q := ⟨_, rfl⟩
  have HQ := hd hq
  have HV : Hid (parV g = if q then parF g else ⟨0, []⟩) := hd (by unfold parV; rw [hq])
  cases q
  · clear hq
    go_enter Try.func9, Try.ntmps9
    go_wp2_with fail
    rw [← HW0.out]
    refine (i_IsCharged g _ _ (HG.out.ext X0.out)).mono ?_
    rw [HQ.out]
    rintro e w1 ⟨rfl, hx1⟩
    have HB := hd (RX.out _ hx1)
    obtain ⟨p0, p1⟩ := blk2 HB.out
    obtain ⟨f0, f1⟩ := blk2f HB.out
    have hs := hx1.size
    have X4 := hd (ext_set (i := 1) (ext_set (i := 0) (X0.out.trans hx1) (g := w.heap.size + 1) (by omega) (.int .i64 0)) (g := w.heap.size + 1) (by omega) (.slice none 0 0))
    have X5 := hd (X0.out.trans hx1)
    go_wp2
    exact bodyPost_ret (v := .tuple #[.agg #[.int .i64 0, .slice none 0 0], .bool false]) (by simp [results, Try.results9, go_sem, p0, p1]) rfl (RetN.zero (hd HV.out) (by first | exact X4.out | exact X5.out) HQ.out)
  · rw [if_pos rfl] at HV
    obtain ⟨hn1, hn8, hes, hcs, -, hc01, -⟩ := goodC_inv hq
    have HC01 := hd hc01
    have HPL := hd (fun m (hm : m ≤ g.cs.length) => parC_60 hq hm)
    have HKL := hd (fun m => parC_succ g m)
    have HKX := hd (fun m (hm : m < g.cs.length) => parK_xor hq hm)
    have HKB : Hid (∀ m, m < g.cs.length → (atK g m).length ≤ 4 ∧ ∀ x ∈ atK g m, 0 ≤ x ∧ x ≤ 100) := hd fun m hm => ⟨atK_four hq hm, fun x hx => by have := atN_mem x hx; omega⟩
    have HAT : Hid (∀ (w' : World) (m : Nat), Ext w w' → Calls Try.prog 26 #[.agg #[.int .i64 g.n, .slice A g.es.length c, .slice A' g.cs.length c'], .int .i64 (m : Int)] w' (RetI w' 3 (atK g m))) := hd fun w' m hx => i_at g _ (m : Int) w' (HG.out.ext hx) (by have := hbd.1; omega)
    have HVV : Hid (parV g = ⟨(g.es.length : Int), parC g g.cs.length⟩) := hd HV.out
    have HGD : Hid (goodB ⟨(g.es.length : Int), parC g g.cs.length⟩ = true) := hd (par_good hq)
    have HBD : Hid (Bd_Cnf ⟨(g.es.length : Int), parC g g.cs.length⟩) := hd (by have := parV_bd g; rw [HVV.out] at this; exact this)
    have H0 : Hid (parC g 0 = []) := hd rfl
    clear hq hc01
    generalize parC g = PC at *
    generalize parK g = PK at *
    generalize atK g = AK at *
    have HNC := hd hcs
    clear hcs
    go_enter Try.func9, Try.ntmps9
    go_wp2_with fail
    rw [← HW0.out]
    refine (i_IsCharged g _ _ (HG.out.ext X0.out)).mono ?_
    rw [HQ.out]
    rintro e w1 ⟨rfl, hx1⟩
    have X1 := hd hx1
    have hs1 := hx1.size
    obtain ⟨k0, k1, k2⟩ := BX.out _ hx1
    obtain ⟨l0, l1, l2⟩ := BX.out _ (hx1.alloc (.cells #[.int .i64 (g.es.length : Int), .slice none 0 0] 52))
    clear hx1
    have F0 : Hid (FamB W0 (w1.alloc (.cells #[.int .i64 (g.es.length : Int), .slice none 0 0] 52)) w1.heap.size 52 (g.es.length : Int) w1.heap.size (.slice none 0 0) (PC 0)) :=
      hd ⟨blk_new _ rfl, by rw [H0.out]; exact ownSS_nil _ _ _ _ _, X1.out.alloc _, hs1, hs1, by simp⟩
    go_wp2
    generalize hbx : w1.heap.size = bx at *
    have hbx0 : w.heap.size + 2 ≤ bx := by omega
    clear hbx k0 k1 k2 l0 l1 l2
    go_loopw [22] (fun i wr => ∃ (m : Nat) (ov : Value), m ≤ g.cs.length ∧ i = .int .i64 (m : Int) ∧ FamB W0 wr bx 52 (g.es.length : Int) bx ov (PC m)) (fun i _ => g.cs.length - (intOf i).toNat)
    case atStart => exact ⟨0, _, by omega, rfl, F0.out⟩
    case round =>
      clear F0
      obtain ⟨m, ov, hm, rfl, hF⟩ := hrel
      have HF := hd hF
      have XF := hd hF.ext
      obtain ⟨k0, k1, k2⟩ := BX.out _ hF.ext
      clear hF
      have hm8 : g.cs.length ≤ 8 := by have := HNC.out; omega
      by_cases hlt : m < g.cs.length
      · obtain ⟨a', rfl, hcv⟩ := RdI.at_ ha' hlt
        replace hcv := (X0.out.trans XF.out).cell hcv
        have HK1 := hd (HKL.out m)
        have HK2 := hd (HKX.out m hlt)
        have hc1 := HC01.out _ (List.getElem_mem hlt)
        have hpl := HPL.out m hm
        have hpl2 := HPL.out (m + 1) hlt
        rw [HK1.out, List.length_append] at hpl2
        obtain ⟨hak, hab⟩ := HKB.out m hlt
        have HAB := hd hab
        clear hab
        generalize g.cs[m] = ch at *
        obtain ⟨wo, rfl⟩ : ∃ wo : World, wo = wr := ⟨_, rfl⟩
        go_wp2_with fail
        refine (HAT.out _ m (X0.out.trans XF.out)).mono ?_
        rintro e w2 ⟨u2, rfl, ho2, hx2⟩
        generalize AK m = es at *
        obtain ⟨A2, c2, rfl, h21, h22, ha2⟩ := ho2.rd.form
        have HX2 := hd hx2
        have HMS := hd (fun j (hj : j < es.length) => map_take_snoc hj)
        clear ho2 hx2 k0 k1 k2 hcv
        go_wp2
        go_loopw [7, 31] (fun lv j wr => ∃ i : Nat, i ≤ es.length ∧ j = .int .i64 (i : Int) ∧ OwnI wr w2.heap.size 3 lv ((es.take i).map (· + 1)) ∧ Ext w2 wr) (fun _ j _ => es.length - (intOf j).toNat)
        case atStart => exact ⟨0, by omega, rfl, ownI_nil _ _ _, Ext.refl _⟩
        case round =>
          obtain ⟨i, hi, rfl, ho3, hx3⟩ := hrel
          have HO3 := hd ho3
          have HX3 := hd hx3
          have hl3 : ((es.take i).map (· + 1)).length = i := by simp; omega
          clear ho3 hx3
          by_cases hlt2 : i < es.length
          · obtain ⟨a2, rfl, hc2⟩ := RdI.at_ ha2 hlt2
            replace hc2 := HX3.out.cell hc2
            have hxb := HAB.out _ (List.getElem_mem hlt2)
            have HMT := hd (HMS.out i hlt2)
            generalize es[i] = x at *
            go_wp2_with (at_builtin; refine appI wr HO3.out rfl _ _ rfl _ (by rfl) (by rfl) (by omega) HX3.out.size ?_; intro v' w9 ho1 hg1 _)
            go_roundw
            case rel => exact ⟨i + 1, by omega, by go_num, by rw [HMT.out]; exact ho1, ext_app HX3.out hg1 (ownI_ge HO3.out)⟩
            case measure => simp [intOf]; omega
          · obtain rfl : i = es.length := by omega
            rw [List.take_length] at HO3 hl3
            have hxw := HX2.out.trans HX3.out
            have HXW := hd hxw
            have HF4 := hd (HF.out.on hxw)
            have HLB : Hid (∀ x ∈ es.map (· + 1), -1000 ≤ x ∧ x ≤ 1000) := hd fun x hx => by
              obtain ⟨y, hy, rfl⟩ := List.mem_map.1 hx
              have := HAB.out y hy
              omega
            obtain ⟨A4, c4, hv4, -⟩ := OwnI.form HO3.out
            rw [List.length_map] at hv4
            subst hv4
            have HR4 := hd (HO3.out.rd)
            have HXC := hd (fun (w' : World) (hx : Ext wr w') => i_xorClauses (es.map (· + 1)) (decide (ch = 1)) _ w' (HR4.out.ext hx) (by omega) HLB.out)
            clear hxw
            obtain ⟨c0, c1⟩ := blk2 HF4.out.blk
            go_wp2_with fail
            refine wp_region_sink (fun w' => (w').cell? ⟨bx, 1, none⟩ = some ov) 12 13 #[false, false, false, false, false, false, false, false, false, false, false, false, false] (by kernel_rfl) (by kernel_rfl) (by kernel_rfl) ?_
            have HS : (wr.drew).cell? ⟨bx, 1, none⟩ = some ov := c1
            refine' ordG_take 0 (oi := _) (v := _) ?_ ?_ ?_ (Or.inl ⟨?_, ?_⟩) ?_ ?_
            rotate_left 2
            · (simp only [List.getElem?_toArray, List.getElem?_cons_zero]; rfl)
            · kernel_rfl
            · exact fun _ _ _ h => h
            · rfl
            · (intro w hSw; (try dsimp only at hSw); go_simp; (try with_reducible rfl))
            · exact HS
            (try simp only [Act.put, List.setIfInBounds_toArray, List.set_cons_zero, List.set_cons_succ])
            refine' ordG_take 1 (oi := _) (v := _) ?_ ?_ ?_ (Or.inl ⟨?_, ?_⟩) ?_ ?_
            rotate_left 2
            · (simp only [List.getElem?_toArray, List.getElem?_cons_zero, List.getElem?_cons_succ]; rfl)
            · kernel_rfl
            · exact fun _ _ _ h => h
            · rfl
            · (intro w hSw; (try dsimp only at hSw); go_simp; (try with_reducible rfl))
            · exact HS
            (try simp only [Act.put, List.setIfInBounds_toArray, List.set_cons_zero, List.set_cons_succ])
            refine' ordG_take 2 (oi := _) (v := _) ?_ ?_ ?_ (Or.inl ⟨?_, ?_⟩) ?_ ?_
            rotate_left 2
            · (simp only [List.getElem?_toArray, List.getElem?_cons_zero, List.getElem?_cons_succ]; rfl)
            · kernel_rfl
            · exact fun _ _ _ h => h
            · rfl
            · (intro w hSw; (try dsimp only at hSw); go_simp; (try with_reducible rfl))
            · exact HS
            (try simp only [Act.put, List.setIfInBounds_toArray, List.set_cons_zero, List.set_cons_succ])
            refine' ordG_take 3 (oi := _) (v := _) ?_ ?_ ?_ (Or.inl ⟨?_, ?_⟩) ?_ ?_
            rotate_left 2
            · (simp only [List.getElem?_toArray, List.getElem?_cons_zero, List.getElem?_cons_succ]; rfl)
            · kernel_rfl
            · exact fun _ _ _ h => h
            · rfl
            · (intro w hSw; (try dsimp only at hSw); go_simp; (try with_reducible rfl))
            · exact HS
            (try simp only [Act.put, List.setIfInBounds_toArray, List.set_cons_zero, List.set_cons_succ])
            refine' ordG_take 4 (oi := _) (v := _) ?_ ?_ ?_ (Or.inl ⟨?_, ?_⟩) ?_ ?_
            rotate_left 2
            · (simp only [List.getElem?_toArray, List.getElem?_cons_zero, List.getElem?_cons_succ]; rfl)
            · kernel_rfl
            · exact fun _ _ _ h => h
            · rfl
            · (intro w hSw; (try dsimp only at hSw); go_simp; (try with_reducible rfl))
            · exact HS
            (try simp only [Act.put, List.setIfInBounds_toArray, List.set_cons_zero, List.set_cons_succ])
            refine' ordG_take 5 (oi := _) (v := _) ?_ ?_ ?_ (Or.inl ⟨?_, ?_⟩) ?_ ?_
            rotate_left 2
            · (simp only [List.getElem?_toArray, List.getElem?_cons_zero, List.getElem?_cons_succ]; rfl)
            · kernel_rfl
            · exact fun _ _ _ h => h
            · rfl
            · (intro w hSw; (try dsimp only at hSw); go_simp; (try with_reducible rfl))
            · exact HS
            (try simp only [Act.put, List.setIfInBounds_toArray, List.set_cons_zero, List.set_cons_succ])
            refine' ordG_take 6 (oi := _) (v := _) ?_ ?_ ?_ (Or.inl ⟨?_, ?_⟩) ?_ ?_
            rotate_left 2
            · (simp only [List.getElem?_toArray, List.getElem?_cons_zero, List.getElem?_cons_succ]; rfl)
            · kernel_rfl
            · exact fun _ _ _ h => h
            · rfl
            · (intro w hSw; (try dsimp only at hSw); go_simp; (try with_reducible rfl))
            · exact HS
            (try simp only [Act.put, List.setIfInBounds_toArray, List.set_cons_zero, List.set_cons_succ])
            refine' ordG_take 7 (oi := _) (v := _) ?_ ?_ ?_ (Or.inl ⟨?_, ?_⟩) ?_ ?_
            rotate_left 2
            · (simp only [List.getElem?_toArray, List.getElem?_cons_zero, List.getElem?_cons_succ]; rfl)
            · kernel_rfl
            · exact fun _ _ _ h => h
            · rfl
            · (intro w hSw; (try dsimp only at hSw); go_simp; (try with_reducible rfl))
            · exact HS
            (try simp only [Act.put, List.setIfInBounds_toArray, List.set_cons_zero, List.set_cons_succ])
            refine ordG_all (rs := [8]) (by kernel_rfl) (by simp) (by decide) ?_
            refine' ordG_cons (o := _) ?_ (fun K hK => ?_) ordG_nil
            rotate_left 1
            · (simp only [List.getElem?_toArray, List.getElem?_cons_zero, List.getElem?_cons_succ]; rfl)
            go_simp
            go_at_call 27
            refine (HXC.out _ ((Ext.refl _).drew)).mono ?_
            rintro e w5 ⟨u, zs, rfl, ho5, hz5, hs5, hx5⟩
            have X5 : Hid (Ext wr w5) := hd (Ext.trans (Ext.refl _).drew hx5)
            obtain ⟨A5, c5, rfl, -⟩ := ho5.form
            have HZ5 := hd hz5
            have HO5 := hd ho5
            have HM5 := hd (hs5.trans HK2.out.symm)
            have hzl : zs.length = (PK m).length := by rw [← HM5.out, List.length_map]
            have hz60 : zs.length ≤ 56 := by omega
            clear hz5 ho5 hs5 hx5 hzl
            have HS5 : (w5).cell? ⟨bx, 1, none⟩ = some ov := X5.out.cell c1
            go_simp
            refine hK.out _ _ HS5 ?_
            clear hK K
            (try simp only [Act.put, List.setIfInBounds_toArray, List.set_cons_zero, List.set_cons_succ])
            refine ordG_all (rs := [9]) (by kernel_rfl) (by simp) (by decide) ?_
            refine' ordG_cons (o := _) ?_ (fun K hK => ?_) ordG_nil
            rotate_left 1
            · (simp only [List.getElem?_toArray, List.getElem?_cons_zero, List.getElem?_cons_succ]; rfl)
            refine stepFZ HF4.out (by decide) (by decide) X5.out HZ5.out (by have := HXW.out.size; have := HF.out.low; simp only [World.size_drew]; omega) (own_rd HO5.out) rfl (.tmp 45) (.tmp 49) rfl (by rfl) (by rfl) (by omega) ?_
            intro L A9 c9 w9 _ hb9 HP X9
            obtain ⟨q0, q1⟩ := blk2 hb9
            obtain ⟨q2, q3⟩ := blk2f hb9
            have q4 := blk_lt hb9
            have HS9 : (w9).cell? ⟨bx, 1, none⟩ = some ov := q1
            refine hK.out _ _ HS9 ?_
            clear hK K
            (try simp only [Act.put, List.setIfInBounds_toArray, List.set_cons_zero, List.set_cons_succ])
            refine' ordG_take 10 (oi := _) (v := _) ?_ ?_ ?_ (Or.inl ⟨?_, ?_⟩) ?_ ?_
            rotate_left 2
            · (simp only [List.getElem?_toArray, List.getElem?_cons_zero, List.getElem?_cons_succ]; rfl)
            · kernel_rfl
            · exact fun _ _ _ h => h
            · rfl
            · (intro w hSw; (try dsimp only at hSw); go_simp; (try with_reducible rfl))
            · exact HS9
            (try simp only [Act.put, List.setIfInBounds_toArray, List.set_cons_zero, List.set_cons_succ])
            refine' ordG_take 11 (oi := _) (v := _) ?_ ?_ ?_ (Or.inl ⟨?_, ?_⟩) ?_ ?_
            rotate_left 2
            · (simp only [List.getElem?_toArray, List.getElem?_cons_zero, List.getElem?_cons_succ]; rfl)
            · kernel_rfl
            · exact fun _ _ _ h => h
            · rfl
            · (intro w hSw; (try dsimp only at hSw); go_simp; (try with_reducible rfl))
            · exact HS9
            (try simp only [Act.put, List.setIfInBounds_toArray, List.set_cons_zero, List.set_cons_succ])
            refine ordG_last (by kernel_rfl) (by kernel_rfl) ?_
            refine' wpOp_step (o := _) ?_ (fun K hK => ?_)
            rotate_left 1
            · (simp only [List.getElem?_toArray, List.getElem?_cons_zero, List.getElem?_cons_succ]; rfl)
            go_simp
            refine hK _ _ ?_
            clear hK K
            (try simp only [Act.put, List.setIfInBounds_toArray, List.set_cons_zero, List.set_cons_succ])
            clear HS HS5 HS9 c0 c1 q0 q1 q2 q3
            go_wp2
            go_roundw
            case rel => exact ⟨m + 1, _, by omega, by go_num, by rw [HK1.out, ← HM5.out]; exact HP.out⟩
            case measure => simp [intOf]; omega
      · obtain rfl : m = g.cs.length := by omega
        have B0 := hd (RX.out _ XF.out)
        obtain ⟨A9, c9, rfl, h91, h92⟩ := HF.out.own.form
        clear k0 k1 k2
        go_wp2_with fail
        refine (i_cnf W0 _ bx _ _ _ _ HF.out HGD.out HBD.out).mono ?_
        rintro e w3 ⟨rfl, hx3⟩
        have B3 := hd (hx3.heap B0.out)
        have OW := hd ((HF.out.own.ext hx3).hi_le hx3.size)
        have X3 := hd (X0.out.trans (XF.out.trans hx3))
        obtain ⟨r0, r1⟩ := blk2 B3.out
        obtain ⟨r2, r3⟩ := blk2f B3.out
        have r4 := blk_lt B3.out
        generalize hL : (PC g.cs.length).length = L at *
        have HC := hd (blk2_set (x' := .int .i64 (g.es.length : Int)) (y' := .slice A9 L c9) B3.out)
        have hg3 := grown_set (grown_set (grown_refl w3 (some (w.heap.size + 1))) 0 (.int .i64 (g.es.length : Int))) 1 (.slice A9 L c9)
        have OW2 := hd (((OW.out.box B3.out (by decide) (by decide) hg3).hi_le hg3.size).lo_le (lo' := w.heap.size) (by omega))
        have X4 := hd (ext_set (i := 1) (ext_set (i := 0) X3.out (g := w.heap.size + 1) (by omega) (.int .i64 (g.es.length : Int))) (g := w.heap.size + 1) (by omega) (.slice A9 L c9))
        clear hg3 hL
        go_wp2
        obtain ⟨p0, p1⟩ := blk2 HC.out
        rw [HQ.out]
        exact bodyPost_ret (v := .tuple #[.agg #[.int .i64 (g.es.length : Int), .slice A9 L c9], .bool true]) (by simp [results, Try.results9, go_sem, p0, p1]) rfl ⟨_, rfl, ⟨_, by rw [HVV.out], by rw [HVV.out]; exact OW2.out⟩, X4.out⟩
end Go.Proofs.Ytgkifandgacncaa
