/-
  The clauses of a vertex, the reference's side. Condition: a valid graph.
-/
import Derived.Test.YtgkifandgacncaaParT
import Derived.Test.YtgkifandgacncaaChgC
import Derived.Test.YtgkifandgacncaaSink
import Derived.Test.YtgkifandgacncaaNum
namespace Go.Proofs.Ytgkifandgacncaa
open Go.RowKit
theorem OutZ.some_ {w : World} {lo : Nat} {v : Value} {zs : List Row} (h : OutZ w lo v zs) (hn : 0 < zs.length) : ∃ a c, v = .slice (some a) zs.length c := by
  obtain ⟨_, A, c, e, _, _, hc⟩ := own_rd h
  obtain ⟨a, ha, _⟩ := hc 0 zs[0].1 (by rw [List.getElem?_map, List.getElem?_eq_getElem hn]; rfl)
  exact ⟨a, c, by rw [e, ha]⟩
/-- Clauses of a vertex, all of the call's own. -/
def RetRows (w : World) (xss : List (List Int)) : Ending → World → Prop := fun e w' => ∃ v zs, e = .returned v ∧ OutZ w' w.heap.size v zs ∧ RowsZ w' w.heap.size w'.heap.size zs ∧ zs.map Prod.snd = xss ∧ Ext w w'
set_option maxRecDepth 100000 in
set_option maxHeartbeats 6400000 in
theorem s_l27Clauses (g : Chg) (gv : Value) (v : Nat) (w : World) (h : RdC w gv g) (hg : goodC g = true) (hv : v < g.cs.length) :
    Calls Try.prog 22 #[gv, .int .i64 (v : Int)] w (RetRows w (parK g v)) := by
  have HG := hd h
  obtain ⟨ve, vc, rfl, hE, hC⟩ := h
  obtain ⟨A, c, rfl, h1, h2, ha⟩ := hE.form
  obtain ⟨A', c', rfl, h3, h4, ha'⟩ := hC.form
  clear hE hC
  obtain ⟨-, -, hes, -, -, hc01, -⟩ := goodC_inv hg
  have hch := hc01 _ (List.getElem_mem hv)
  obtain ⟨a', rfl, hcv⟩ := RdI.at_ ha' hv
  have HCH : Hid (chK g v = g.cs[v]) := hd (by unfold chK; simp [List.getD, hv])
  have h4K := atK_four hg hv
  have HEB : Hid (∀ x ∈ atK g v, 0 ≤ x ∧ x ≤ 100) := hd fun x hx => by have := atN_mem x hx; omega
  have HPK : Hid (parK g v = spcC (atK g v) (chK g v) (2 ^ (atK g v).length)) := hd rfl
  rw [HCH.out] at HPK
  have BX : Hid (∀ w' : World, Ext (w.alloc (.cells #[.int .i64 g.n, .slice A g.es.length c, .slice (some a') g.cs.length c'] 32)) w' → w'.cell? ⟨w.heap.size, 0, none⟩ = some (.int .i64 g.n) ∧ w'.cell? ⟨w.heap.size, 1, none⟩ = some (.slice A g.es.length c) ∧ w'.cell? ⟨w.heap.size, 2, none⟩ = some (.slice (some a') g.cs.length c')) := hd fun w' hx => blk3 (hx.heap (blk_new (w := w) (.cells #[.int .i64 g.n, .slice A g.es.length c, .slice (some a') g.cs.length c'] 32) rfl))
  generalize g.cs[v] = ch at *
  have HC2 : Hid (∀ w' : World, Ext w w' → w'.cell? (a'.add v) = some (.int .i64 ch)) := hd fun w' hx => hx.cell hcv
  have HAT : Hid (∀ w' : World, Ext w w' → Calls Try.prog 51 #[.agg #[.int .i64 g.n, .slice A g.es.length c, .slice (some a') g.cs.length c'], .int .i64 (v : Int)] w' (RetI w' 3 (atK g v))) := hd fun w' hx => s_l27At g _ v w' (HG.out.ext hx) (by omega)
  generalize atK g v = es at *
  generalize hN : es.length = N at *
  have HN := hd hN
  have hpm := wrap_pow (m := N) (by omega)
  have hM : 2 ^ N ≤ 16 := Nat.le_trans (Nat.pow_le_pow_right (by decide) h4K) (by decide : 2 ^ 4 ≤ 16)
  generalize 2 ^ N = M at *
  have hvl : (v : Int) < (g.cs.length : Int) := by omega
  clear hcv hN hc01 HG h1 h3
  go_enter Try.func22, Try.ntmps22
  go_wp2_with fail
  refine (HAT.out _ (Ext.new _ _)).mono ?_
  rintro e w1 ⟨u, rfl, hu, hx1⟩
  obtain ⟨A5, c5, rfl, -⟩ := hu.rd.form
  have HUR := hd hu.rd
  have X1 := hd hx1
  have hs1 := hx1.box.size
  rw [HN.out] at HUR
  have O0 : Hid (OutZ (w1.alloc (.cells #[] 23)) w.heap.size (.slice (some ⟨w1.heap.size, 0, none⟩) 0 0) []) := hd (outZ_emp (heap_n1 _ _) hs1)
  clear hu hx1 HAT
  rw [HN.out]
  go_wp2
  go_loopw [6, 7] (fun ov cv wr => ∃ (code : Nat) (zs : List Row) (a : Addr) (c : Nat), code ≤ M ∧ cv = .int .i64 (code : Int) ∧ ov = .slice (some a) zs.length c ∧ OutZ wr w.heap.size (.slice (some a) zs.length c) zs ∧ RowsZ wr w.heap.size wr.heap.size zs ∧ zs.map Prod.snd = spcC es ch code ∧ Ext w1 wr) (fun _ cv _ => M - (intOf cv).toNat)
  case atStart => exact ⟨0, [], _, _, by omega, rfl, rfl, O0.out, RowsZ.nil _ _ _, rfl, Ext.new _ _⟩
  case round =>
    clear O0
    obtain ⟨code, zs, a, c6, hcode, rfl, rfl, hO, hZ, hS, hx⟩ := hrel
    have HO := hd hO
    have HZ := hd hZ
    have HS6 := hd hS
    have HX := hd hx
    obtain ⟨k0, k1, k2⟩ := BX.out _ (X1.out.trans hx)
    have hzl : zs.length ≤ M := by
      have e : (zs.map Prod.snd).length = (spcC es ch code).length := by rw [hS]
      rw [List.length_map] at e
      have := spcC_len es ch code
      omega
    clear hO hZ hS hx
    by_cases hlt : code < M
    · have hch2 := HC2.out _ (X1.out.box.trans HX.out)
      have HSC := hd (spcC_succ es ch code)
      rw [HN.out] at HSC
      obtain ⟨wo, rfl⟩ : ∃ wo : World, wo = wr := ⟨_, rfl⟩
      go_wp2_with fail
      refine wp_region_sink (fun w' => (w').cell? ⟨w.heap.size, 2, none⟩ = some (.slice (some a') g.cs.length c') ∧ (w').cell? (a'.add v) = some (.int .i64 ch)) 7 8 #[false, false, false, false, false, false, false, false] (by kernel_rfl) (by kernel_rfl) (by kernel_rfl) ?_
      have HS : (wo.drew).cell? ⟨w.heap.size, 2, none⟩ = some (.slice (some a') g.cs.length c') ∧ (wo.drew).cell? (a'.add v) = some (.int .i64 ch) := ⟨k2, hch2⟩
      refine' ordG_take 1 (oi := _) (v := _) ?_ ?_ ?_ (Or.inl ⟨?_, ?_⟩) ?_ ?_
      rotate_left 2
      · (simp only [List.getElem?_toArray, List.getElem?_cons_zero, List.getElem?_cons_succ]; rfl)
      · kernel_rfl
      · exact fun _ _ _ h => h
      · rfl
      · (intro w hSw; (try dsimp only at hSw); go_simp; (try with_reducible rfl))
      · exact HS
      (try simp only [Act.put, List.setIfInBounds_toArray, List.set_cons_zero, List.set_cons_succ])
      refine' ordG_take 2 (oi := _) (v := _) ?_ ?_ ?_ (Or.inl ⟨?_, ?_⟩) ?_ ?_
      rotate_left 2
      · (simp only [List.getElem?_toArray, List.getElem?_cons_zero, List.getElem?_cons_succ]; rfl)
      · kernel_rfl
      · exact fun _ _ _ h => h
      · rfl
      · (intro w hSw; (try dsimp only at hSw); go_simp; (try with_reducible rfl))
      · exact HS
      (try simp only [Act.put, List.setIfInBounds_toArray, List.set_cons_zero, List.set_cons_succ])
      refine' ordG_take 3 (oi := _) (v := _) ?_ ?_ ?_ (Or.inl ⟨?_, ?_⟩) ?_ ?_
      rotate_left 2
      · (simp only [List.getElem?_toArray, List.getElem?_cons_zero, List.getElem?_cons_succ]; rfl)
      · kernel_rfl
      · exact fun _ _ _ h => h
      · rfl
      · (intro w hSw; (try dsimp only at hSw); go_simp; (try with_reducible rfl))
      · exact HS
      (try simp only [Act.put, List.setIfInBounds_toArray, List.set_cons_zero, List.set_cons_succ])
      refine' ordG_take 4 (oi := _) (v := _) ?_ ?_ ?_ (Or.inl ⟨?_, ?_⟩) ?_ ?_
      rotate_left 2
      · (simp only [List.getElem?_toArray, List.getElem?_cons_zero, List.getElem?_cons_succ]; rfl)
      · kernel_rfl
      · exact fun _ _ _ h => h
      · rfl
      · (intro w hSw; (try dsimp only at hSw); go_simp; (try with_reducible rfl))
      · exact HS
      (try simp only [Act.put, List.setIfInBounds_toArray, List.set_cons_zero, List.set_cons_succ])
      refine' ordG_take 5 (oi := _) (v := _) ?_ ?_ ?_ (Or.inl ⟨?_, ?_⟩) ?_ ?_
      rotate_left 2
      · (simp only [List.getElem?_toArray, List.getElem?_cons_zero, List.getElem?_cons_succ]; rfl)
      · kernel_rfl
      · exact fun _ _ _ h => h
      · rfl
      · (intro w hSw; (try dsimp only at hSw); go_simp; (try with_reducible rfl))
      · exact HS
      (try simp only [Act.put, List.setIfInBounds_toArray, List.set_cons_zero, List.set_cons_succ])
      refine ordG_all (rs := [0]) (by kernel_rfl) (by simp) (by decide) ?_
      refine' ordG_cons (o := _) ?_ (fun K hK => ?_) ordG_nil
      rotate_left 1
      · (simp only [List.getElem?_toArray, List.getElem?_cons_zero]; rfl)
      go_simp
      have HS2 : (wo.drew.alloc (.cells #[] 3)).cell? ⟨w.heap.size, 2, none⟩ = some (.slice (some a') g.cs.length c') ∧ (wo.drew.alloc (.cells #[] 3)).cell? (a'.add v) = some (.int .i64 ch) := ⟨(Ext.new _ _).cell HS.1, (Ext.new _ _).cell HS.2⟩
      refine hK.out _ _ HS2 ?_
      clear hK K
      (try simp only [Act.put, List.setIfInBounds_toArray, List.set_cons_zero, List.set_cons_succ])
      refine' ordG_take 6 (oi := _) (v := _) ?_ ?_ ?_ (Or.inl ⟨?_, ?_⟩) ?_ ?_
      rotate_left 2
      · (simp only [List.getElem?_toArray, List.getElem?_cons_zero, List.getElem?_cons_succ]; rfl)
      · kernel_rfl
      · exact fun _ _ _ h => h
      · rfl
      · (intro w hSw; (try dsimp only at hSw); go_simp; (try with_reducible rfl))
      · exact HS2
      (try simp only [Act.put, List.setIfInBounds_toArray, List.set_cons_zero, List.set_cons_succ])
      refine ordG_last (by kernel_rfl) (by kernel_rfl) ?_
      refine' wpOp_step (o := _) ?_ (fun K hK => ?_)
      rotate_left 1
      · (simp only [List.getElem?_toArray, List.getElem?_cons_zero, List.getElem?_cons_succ]; rfl)
      go_simp
      refine hK _ _ ?_
      clear hK K
      (try simp only [Act.put, List.setIfInBounds_toArray, List.set_cons_zero, List.set_cons_succ])
      have E0 : Hid (OwnI (wo.drew.alloc (.cells #[] 3)) wo.heap.size 3 (.slice (some ⟨wo.heap.size, 0, none⟩) 0 0) (clN es code 0)) := hd (ownI_emp' rfl (Nat.le_refl _))
      have EX : Hid (Ext wo (wo.drew.alloc (.cells #[] 3))) := hd ((Ext.refl _).drew.alloc _)
      clear HS HS2 k0 k1 k2 hch2
      go_wp2
      go_loopw [8, 9, 10] (fun cv sv iv wr => ∃ i : Nat, i ≤ N ∧ iv = .int .i64 (i : Int) ∧ sv = .int .i64 (ch + (popN code i : Int)) ∧ OwnI wr wo.heap.size 3 cv (clN es code i) ∧ Ext wo wr) (fun _ _ iv _ => N - (intOf iv).toNat)
      case atStart => exact ⟨0, by omega, rfl, by simp [popN], E0.out, EX.out⟩
      case round =>
        clear E0 EX
        obtain ⟨i, hi, rfl, rfl, ho2, hx2⟩ := hrel
        have HX2 := hd hx2
        have HO2 := hd ho2
        have hpl := popN_le code i
        have hcl := clN_len es code i
        have HUR2 := hd (HUR.out.ext (HX.out.trans hx2))
        clear ho2 hx2
        by_cases hlt2 : i < N
        · have hil : i < es.length := by rw [HN.out]; exact hlt2
          obtain ⟨a5, rfl, hc5⟩ := RdI.at_ HUR2 hil
          have hb5 := HEB.out _ (List.getElem_mem hil)
          have HCS := hd (clN_succ es code i)
          rw [show es.getD i 0 = es[i] from by simp [List.getD, hil]] at HCS
          have HPS : Hid (popN code (i + 1) = popN code i + (if code.testBit i then 1 else 0)) := hd rfl
          generalize es[i] = e at *
          have hsh := shr_and (b := code) (k := i) (by omega)
          have hbt : bitN code i = if code.testBit i then 1 else 0 := by
            unfold bitN
            rw [Nat.testBit_eq_decide_div_mod_eq]
            have := Nat.mod_lt (code / 2 ^ i) (show 0 < 2 by decide)
            by_cases hh : code / 2 ^ i % 2 = 1
            · simp [hh]
            · have h0 : code / 2 ^ i % 2 = 0 := by omega
              simp [h0]
          rw [hbt] at hsh
          generalize popN code i = pn at *
          generalize hcc : clN es code i = cc at *
          have HCC := hd hcc
          clear hcc hbt hil HUR2
          generalize code.testBit i = tb at *
          have hi0 : (0 : Int) ≤ (i : Int) := by omega
          have hiN : (i : Int) < (N : Int) := by omega
          cases tb
          · have hsh' : bits .and .i64 ((code : Int) / 2 ^ i) 1 = 0 := by simpa using hsh
            clear hsh
            have HC3 : Hid (clN es code (i + 1) = cc ++ [e + 1]) := hd (by rw [HCS.out]; rfl)
            go_wp2_with (at_builtin; refine appI wr HO2.out rfl _ _ rfl _ (by rfl) (by rfl) (by omega) HX2.out.size ?_; intro v' w9 ho1 hg1 _)
            go_roundw
            case rel => exact ⟨i + 1, by omega, by go_num, by rw [HPS.out]; simp, by rw [HC3.out]; exact ho1, ext_app HX2.out hg1 (ownI_ge HO2.out)⟩
            case measure => simp [intOf]; omega
          · have hsh' : bits .and .i64 ((code : Int) / 2 ^ i) 1 = 1 := by simpa using hsh
            clear hsh
            have HC3 : Hid (clN es code (i + 1) = cc ++ [-(e + 1)]) := hd (by rw [HCS.out]; rfl)
            go_wp2_with (at_builtin; refine appI wr HO2.out rfl _ _ rfl _ (by rfl) (by rfl) (by omega) HX2.out.size ?_; intro v' w9 ho1 hg1 _)
            go_roundw
            case rel => exact ⟨i + 1, by omega, by go_num, by rw [HPS.out]; simp; omega, by rw [HC3.out]; exact ho1, ext_app HX2.out hg1 (ownI_ge HO2.out)⟩
            case measure => simp [intOf]; omega
        · obtain rfl : i = N := by omega
          have HCL := hd hcl
          clear hcl
          obtain ⟨A7, c7, rfl, -⟩ := OwnI.form HO2.out
          have HOw : Hid (OutZ wr w.heap.size (.slice (some a) zs.length c6) zs) := hd (own_ext HO.out HX2.out)
          have HZw := hd (HZ.out.ext HX2.out)
          have hs0 : w.heap.size ≤ wo.heap.size := Nat.le_trans hs1 HX.out.size
          have hz0 : 0 ≤ ch + (popN code i : Int) := by omega
          have hz8 : ch + (popN code i : Int) ≤ 8 := by omega
          generalize ch + (popN code i : Int) = z at *
          rw [Int.tmod_eq_emod_of_nonneg hz0] at HSC
          have hzm : zs.length ≤ 1000000 := Nat.le_trans hzl (Nat.le_trans hM (by decide))
          have H4K := hd h4K
          have HI5 : Hid (i ≤ 1000000) := hd (Nat.le_trans h4K (by decide))
          clear hpl hpm h4K hes hzl
          by_cases hodd : z % 2 = 1
          · have HS7 : Hid (spcC es ch (code + 1) = insL (zs.map Prod.snd) (clN es code i)) := hd (by rw [HSC.out, if_pos hodd, HS6.out])
            have HB1 : Hid (∀ z ∈ zs, RdI wr z.1 z.2 ∧ z.2.length ≤ 1000000 ∧ ∀ x ∈ z.2, -1000 ≤ x ∧ x ≤ 1000) := hd fun z hz => ⟨(HZw.out.1 z hz).1.rd, spcC_bd HEB.out (by rw [HN.out]; exact H4K.out) z.2 (by rw [← HS6.out]; exact List.mem_map_of_mem hz)⟩
            have HB2 : Hid (∀ x ∈ clN es code i, -1000 ≤ x ∧ x ≤ 1000) := hd (clN_bd HEB.out (by rw [HN.out]; exact Nat.le_refl _))
            have HINS := hd (s_l2Insert zs (clN es code i) _ a c6 _ wr HOw.out HO2.out.rd HB1 HB2 hzm (by rw [HCL.out]; exact HI5.out))
            have HFY := hd (fun h => insL_yes (xss := zs.map Prod.snd) (c := clN es code i) h)
            have HFN := hd (fun h => insL_no (xss := zs.map Prod.snd) (c := clN es code i) h)
            generalize foundL (zs.map Prod.snd) (clN es code i) = q at *
            go_wp2_with fail
            refine HINS.out.mono ?_
            cases q
            · rintro e w5 ⟨v', rfl, ho5, hx5⟩
              have HR5 : RowsZ w5 w.heap.size w5.heap.size (zs.take (plcL (zs.map Prod.snd) (clN es code i)) ++ (_, clN es code i) :: zs.drop (plcL (zs.map Prod.snd) (clN es code i))) :=
                (((HZ.out.ext HX2.out).cat (RowsZ.one HO2.out) hs0 (Nat.le_refl _) HX2.out.size).perm perm_ins |>.ext hx5).hi_le hx5.size
              obtain ⟨a9, c9, rfl⟩ := ho5.some_ (by simp; omega)
              have HR6 := hd HR5
              have HO6 := hd ho5
              have HX6 := hd hx5
              have HM6 := hd (ins_zs (zs := zs) (u := Value.slice A7 (clN es code i).length c7) (ys := clN es code i) (k := plcL (zs.map Prod.snd) (clN es code i)))
              have HS8 := hd (HFN.out rfl)
              clear HR5 ho5 hx5
              generalize zs.take (plcL (zs.map Prod.snd) (clN es code i)) ++ (Value.slice A7 (clN es code i).length c7, clN es code i) :: zs.drop (plcL (zs.map Prod.snd) (clN es code i)) = zs9 at *
              go_wp2
              go_roundw
              case rel => exact ⟨code + 1, zs9, a9, c9, by omega, by go_num, rfl, own_rebase HO6.out (Nat.le_trans hs0 HX2.out.size), HR6.out, by rw [HM6.out, HS7.out, HS8.out], HX.out.trans (HX2.out.trans HX6.out)⟩
              case measure => simp [intOf]; omega
            · rintro e w5 ⟨rfl, n5, rfl⟩
              go_wp2
              go_roundw
              case rel => exact ⟨code + 1, zs, a, c6, by omega, by go_num, rfl, HOw.out, HZw.out.hi_le HX2.out.size, (HS7.out.trans (HFY.out (by simp))).symm, (HX.out.trans HX2.out).drewN _⟩
              case measure => simp [intOf]; omega
          · have HS7 : Hid (spcC es ch (code + 1) = spcC es ch code) := hd (by rw [HSC.out, if_neg hodd])
            have hodd2 : z % 2 = 0 := by omega
            clear hodd
            go_wp2
            go_roundw
            case rel => exact ⟨code + 1, zs, a, c6, by omega, by go_num, rfl, HOw.out, HZw.out.hi_le HX2.out.size, by rw [HS7.out, HS6.out], HX.out.trans HX2.out⟩
            case measure => simp [intOf]; omega
    · obtain rfl : code = M := by omega
      go_wp2
      go_ret
      exact ⟨_, zs, rfl, HO.out, HZ.out, by rw [HS6.out, HPK.out], X1.out.box.trans HX.out⟩
end Go.Proofs.Ytgkifandgacncaa
