/-
  ParityCnf: the reference's side. Conditions: sizes up to 2^20.
-/
import Derived.Test.YtgkifandgacncaaParU
import Derived.Test.YtgkifandgacncaaRetN
import Derived.Test.YtgkifandgacncaaLawC
namespace Go.Proofs.Ytgkifandgacncaa
open Go.RowKit
section
variable {w0 w wa : World} {bx lo lo2 : Nat} {T : TypeId} {n : Int} {ov src : Value} {xss : List (List Int)} {zs : List Row}
theorem ownSS_empZ {W : World} {b lo : Nat} (h : W.heap[b]? = some (.cells #[] 23 (0, 0))) (hb : lo ≤ b) : OwnSS W lo W.heap.size 23 3 (.slice (some ⟨b, 0, none⟩) 0 0) [] := (RowsZ.nil _ _ _).ssz (zs := []) (outZ_emp h hb)
/-- append of rows of the call's own to the family's lists, at a step of a region that draws its order. -/
theorem stepFZ {K : Act → World → Prop} {E : Prop} {ops : Array Oper} {o : Oper} {a : Act} {Q : Exit → Act → World → Prop} (h : FamB w0 w bx T n lo ov xss) (hT : T ≠ 23) (hT2 : T ≠ 3) (ha : Ext w wa) (hz : RowsZ wa lo2 wa.heap.size zs) (hl : w.heap.size ≤ lo2) (hsrc : Rd wa 1 src zs.length (zs.map Prod.fst)) (hgd : o.guard = none) (s x : Operand)
    (ho : o.op = .call { callee := .builtin .append, args := #[s, x], argTypes := #[27, 27] })
    (hs : a.eval s = ov) (hx : a.eval x = src) (hn : xss.length + zs.length ≤ 2147483648)
    (k : ∀ L A c w1, Hid (L = xss.length + zs.length) → w1.heap[bx]? = some (.cells #[.int .i64 n, ov] T (0, 0)) → Hid (FamB w0 (w1.setCell ⟨bx, 1, none⟩ (.slice A L c)) bx T n lo (.slice A L c) (xss ++ zs.map Prod.snd)) → Ext w0 w1 → K (a.put o.dst (.slice A L c)) w1) :
    if Region.wanted o (yielded ops a.tmps) = true then Oper.wp Try.prog o a wa K Q else E := by
  obtain ⟨ys, hys, hO, hZ⟩ := h.own.rows
  have hlen : xss.length = ys.length := by rw [hys, List.length_map]
  refine stepZ wa (own_ext hO ha) hsrc hz.one' hgd s x ho hs hx (by omega) (Nat.le_trans h.low ha.size) fun v' w1 k1 k2 _ => ?_
  obtain ⟨A, c, rfl, -⟩ := OutZ.form k1
  have hB := h.blk1 hT ha k2
  have hR : RowsZ wa lo wa.heap.size (ys ++ zs) := (hZ.ext ha).cat hz (Nat.le_trans h.low hl) hl ha.size
  have hR1 : RowsZ w1 lo w1.heap.size (ys ++ zs) := (hR.grownO (own_ext hO ha) k2).hi_size
  have hF := h.put hT hT2 ha (hR1.ssz k1) k2
  rw [List.map_append, ← hys] at hF
  exact k _ A c w1 (hd (by rw [List.length_append, hlen])) hB (hd hF) (ext_appS (h.ext.trans ha) k2 h.own_low)
end
set_option maxRecDepth 100000 in
set_option maxHeartbeats 6400000 in
theorem s_ParityCnf (g : Chg) (gv : Value) (w : World) (h : RdC w gv g) (_ : Bd_Charged g) (_ : I64_Charged g) : Calls Try.prog 7 #[gv] w (RetN w (parV g) (goodC g)) := by
  have HG := hd h
  obtain ⟨ve, vc, rfl, hE, hC⟩ := h
  obtain ⟨A, c, rfl, h1, h2, ha⟩ := hE.form
  obtain ⟨A', c', rfl, h3, h4, ha'⟩ := hC.form
  clear hE hC
  have X0 : Hid (Ext w ((w.alloc (.cells #[.int .i64 g.n, .slice A g.es.length c, .slice A' g.cs.length c'] 32)).alloc (.cells #[.int .i64 0, .slice none 0 0] 29))) := hd ((Ext.new _ _).alloc _)
  have BX : Hid (∀ w' : World, Ext ((w.alloc (.cells #[.int .i64 g.n, .slice A g.es.length c, .slice A' g.cs.length c'] 32)).alloc (.cells #[.int .i64 0, .slice none 0 0] 29)) w' → w'.cell? ⟨w.heap.size, 0, none⟩ = some (.int .i64 g.n) ∧ w'.cell? ⟨w.heap.size, 1, none⟩ = some (.slice A g.es.length c) ∧ w'.cell? ⟨w.heap.size, 2, none⟩ = some (.slice A' g.cs.length c')) := hd fun w' hx => blk3 (hx.heap (blk_old (blk_new (w := w) (.cells #[.int .i64 g.n, .slice A g.es.length c, .slice A' g.cs.length c'] 32) rfl)))
  have RX : Hid (∀ w' : World, Ext ((w.alloc (.cells #[.int .i64 g.n, .slice A g.es.length c, .slice A' g.cs.length c'] 32)).alloc (.cells #[.int .i64 0, .slice none 0 0] 29)) w' → w'.heap[w.heap.size + 1]? = some (.cells #[.int .i64 0, .slice none 0 0] 29)) := hd fun w' hx => hx.heap (blk_new _ (by simp))
  obtain ⟨W0, hW0⟩ : ∃ W0, W0 = (w.alloc (.cells #[.int .i64 g.n, .slice A g.es.length c, .slice A' g.cs.length c'] 32)).alloc (.cells #[.int .i64 0, .slice none 0 0] 29) := ⟨_, rfl⟩
  have hz0 : w.heap.size + 2 = W0.heap.size := by rw [hW0]; simp
  have HW0 := hd hW0
  rw [← hW0] at X0 BX RX
  clear hW0
  obtain ⟨q, hq⟩ : ∃ q, goodC g = q := ⟨_, rfl⟩
  have HQ := hd hq
  have HV : Hid (parV g = if q then parF g else ⟨0, []⟩) := hd (by unfold parV; rw [hq])
  cases q
  · clear hq
    go_enter Try.func7, Try.ntmps7
    go_wp2_with fail
    rw [← HW0.out]
    refine (s_l27Good g _ _ (HG.out.ext X0.out)).mono ?_
    rw [HQ.out]
    rintro e w1 ⟨rfl, hx1⟩
    have HB := hd (RX.out _ hx1)
    obtain ⟨p0, p1⟩ := blk2 HB.out
    obtain ⟨f0, f1⟩ := blk2f HB.out
    have hs := hx1.size
    have X4 := hd (ext_set (i := 1) (ext_set (i := 0) (X0.out.trans hx1) (g := w.heap.size + 1) (by omega) (.int .i64 0)) (g := w.heap.size + 1) (by omega) (.slice none 0 0))
    have X5 := hd (X0.out.trans hx1)
    go_wp2
    exact bodyPost_ret (v := .tuple #[.agg #[.int .i64 0, .slice none 0 0], .bool false]) (by simp [results, Try.results7, go_sem, p0, p1]) rfl (RetN.zero (hd HV.out) (by first | exact X4.out | exact X5.out) HQ.out)
  · rw [if_pos rfl] at HV
    obtain ⟨hn1, hn8, hes, hcs, -⟩ := goodC_inv hq
    have HPL := hd (fun m (hm : m ≤ g.cs.length) => parC_60 hq hm)
    have HKL := hd (fun m => parC_succ g m)
    have HCL : Hid (∀ (w' : World) (m : Nat), m < g.cs.length → Ext w w' → Calls Try.prog 22 #[.agg #[.int .i64 g.n, .slice A g.es.length c, .slice A' g.cs.length c'], .int .i64 (m : Int)] w' (RetRows w' (parK g m))) := hd fun w' m hm hx => s_l27Clauses g _ m w' (HG.out.ext hx) hq hm
    have HVV : Hid ((parV g).n = (g.es.length : Int) ∧ (parV g).cs = parC g g.cs.length) := hd (by rw [HV.out]; exact ⟨rfl, rfl⟩)
    have H0 : Hid (parC g 0 = []) := hd rfl
    clear hq
    generalize parC g = PC at *
    generalize parK g = PK at *
    have HNC := hd hcs
    clear hcs
    go_enter Try.func7, Try.ntmps7
    go_wp2_with fail
    rw [← HW0.out]
    refine (s_l27Good g _ _ (HG.out.ext X0.out)).mono ?_
    rw [HQ.out]
    rintro e w1 ⟨rfl, hx1⟩
    have X1 := hd hx1
    have hs1 := hx1.size
    obtain ⟨k0, k1, k2⟩ := BX.out _ hx1
    clear hx1
    have F0 : Hid (FamB W0 ((w1.alloc (.cells #[] 23)).alloc (.cells #[.int .i64 (g.es.length : Int), .slice (some ⟨w1.heap.size, 0, none⟩) 0 0] 29)) (w1.heap.size + 1) 29 (g.es.length : Int) w1.heap.size (.slice (some ⟨w1.heap.size, 0, none⟩) 0 0) (PC 0)) :=
      hd ⟨blk_new _ (by simp), by rw [H0.out]; exact ownSS_empZ (heap_n2 _ _ _) (Nat.le_refl _), (X1.out.alloc _).alloc _, by omega, hs1, by simp; omega⟩
    go_wp2
    generalize hbx : w1.heap.size + 1 = bx at *
    have hbx0 : w.heap.size + 2 ≤ bx := by omega
    clear hbx k0 k1 k2
    go_loopw [5] (fun i wr => ∃ (m : Nat) (ov : Value), m ≤ g.cs.length ∧ i = .int .i64 (m : Int) ∧ FamB W0 wr bx 29 (g.es.length : Int) w1.heap.size ov (PC m)) (fun i _ => g.cs.length - (intOf i).toNat)
    case atStart => exact ⟨0, _, by omega, rfl, F0.out⟩
    case round =>
      clear F0
      obtain ⟨m, ov, hm, rfl, hF⟩ := hrel
      have HF := hd hF
      have XF := hd hF.ext
      obtain ⟨k0, k1, k2⟩ := BX.out _ hF.ext
      clear hF
      obtain ⟨c0, c1⟩ := blk2 HF.out.blk
      by_cases hlt : m < g.cs.length
      · have hltn : (m : Int) < g.n := by have := HNC.out; omega
        have HK1 := hd (HKL.out m)
        have hpl := HPL.out m hm
        have hpl2 := HPL.out (m + 1) hlt
        rw [HK1.out, List.length_append] at hpl2
        have hlw := HF.out.low
        go_wp2_with fail
        refine wp_region_sink (fun w' => (w').cell? ⟨bx, 1, none⟩ = some ov ∧ (w').cell? ⟨w.heap.size, 0, none⟩ = some (.int .i64 g.n) ∧ (w').cell? ⟨w.heap.size, 1, none⟩ = some (.slice A g.es.length c) ∧ (w').cell? ⟨w.heap.size, 2, none⟩ = some (.slice A' g.cs.length c')) 7 8 #[false, false, false, false, false, false, false, false] (by kernel_rfl) (by kernel_rfl) (by kernel_rfl) ?_
        have HS : (wr.drew).cell? ⟨bx, 1, none⟩ = some ov ∧ (wr.drew).cell? ⟨w.heap.size, 0, none⟩ = some (.int .i64 g.n) ∧ (wr.drew).cell? ⟨w.heap.size, 1, none⟩ = some (.slice A g.es.length c) ∧ (wr.drew).cell? ⟨w.heap.size, 2, none⟩ = some (.slice A' g.cs.length c') := ⟨c1, k0, k1, k2⟩
        refine' ordG_take 0 (oi := _) (v := _) ?_ ?_ ?_ (Or.inl ⟨?_, ?_⟩) ?_ ?_
        rotate_left 2
        · (simp only [List.getElem?_toArray, List.getElem?_cons_zero]; rfl)
        · kernel_rfl
        · exact fun _ _ _ h => h
        · rfl
        · (intro w hSw; (try dsimp only at hSw); go_simp; (try with_reducible rfl))
        · exact HS
        (try simp only [Act.put, List.setIfInBounds_toArray, List.set_cons_zero, List.set_cons_succ])
        refine' ordG_take 1 (oi := _) (v := _) ?_ ?_ ?_ (Or.inl ⟨?_, ?_⟩) ?_ ?_
        rotate_left 2
        · (simp only [List.getElem?_toArray, List.getElem?_cons_zero, List.getElem?_cons_succ]; rfl)
        · kernel_rfl
        · exact fun _ _ _ h => h
        · rfl
        · (intro w hSw; (try dsimp only at hSw); go_simp; (try with_reducible rfl))
        · exact HS
        (try simp only [Act.put, List.setIfInBounds_toArray, List.set_cons_zero, List.set_cons_succ])
        refine' ordG_take 2 (oi := _) (v := _) ?_ ?_ ?_ (Or.inl ⟨?_, ?_⟩) ?_ ?_
        rotate_left 2
        · (simp only [List.getElem?_toArray, List.getElem?_cons_zero, List.getElem?_cons_succ]; rfl)
        · kernel_rfl
        · exact fun _ _ _ h => h
        · rfl
        · (intro w hSw; (try dsimp only at hSw); go_simp; (try with_reducible rfl))
        · exact HS
        (try simp only [Act.put, List.setIfInBounds_toArray, List.set_cons_zero, List.set_cons_succ])
        refine' ordG_take 3 (oi := _) (v := _) ?_ ?_ ?_ (Or.inl ⟨?_, ?_⟩) ?_ ?_
        rotate_left 2
        · (simp only [List.getElem?_toArray, List.getElem?_cons_zero, List.getElem?_cons_succ]; rfl)
        · kernel_rfl
        · exact fun _ _ _ h => h
        · rfl
        · (intro w hSw; (try dsimp only at hSw); go_simp; (try with_reducible rfl))
        · exact HS
        (try simp only [Act.put, List.setIfInBounds_toArray, List.set_cons_zero, List.set_cons_succ])
        refine ordG_all (rs := [4]) (by kernel_rfl) (by simp) (by decide) ?_
        refine' ordG_cons (o := _) ?_ (fun K hK => ?_) ordG_nil
        rotate_left 1
        · (simp only [List.getElem?_toArray, List.getElem?_cons_zero, List.getElem?_cons_succ]; rfl)
        go_simp
        go_at_call 22
        refine (HCL.out _ m hlt ((X0.out.trans XF.out).drew)).mono ?_
        rintro e w5 ⟨u, zs, rfl, ho5, hz5, hs5, hx5⟩
        have X5 : Hid (Ext wr w5) := hd (Ext.trans (Ext.refl _).drew hx5)
        obtain ⟨A5, c5, rfl, -⟩ := ho5.form
        have HZ5 := hd hz5
        have HO5 := hd ho5
        have HM5 := hd hs5
        have hzl : zs.length = (PK m).length := by rw [← hs5, List.length_map]
        have hz60 : zs.length ≤ 56 := by omega
        clear hz5 ho5 hs5 hx5 hzl
        have XF5 := hd (XF.out.trans X5.out)
        have HS5 : (w5).cell? ⟨bx, 1, none⟩ = some ov ∧ (w5).cell? ⟨w.heap.size, 0, none⟩ = some (.int .i64 g.n) ∧ (w5).cell? ⟨w.heap.size, 1, none⟩ = some (.slice A g.es.length c) ∧ (w5).cell? ⟨w.heap.size, 2, none⟩ = some (.slice A' g.cs.length c') := ⟨X5.out.cell c1, BX.out _ XF5.out⟩
        go_simp
        refine hK.out _ _ HS5 ?_
        clear hK K
        (try simp only [Act.put, List.setIfInBounds_toArray, List.set_cons_zero, List.set_cons_succ])
        refine ordG_all (rs := [5]) (by kernel_rfl) (by simp) (by decide) ?_
        refine' ordG_cons (o := _) ?_ (fun K hK => ?_) ordG_nil
        rotate_left 1
        · (simp only [List.getElem?_toArray, List.getElem?_cons_zero, List.getElem?_cons_succ]; rfl)
        refine stepFZ HF.out (by decide) (by decide) X5.out HZ5.out (Nat.le_refl _) (own_rd HO5.out) rfl (.tmp 22) (.tmp 25) rfl (by rfl) (by rfl) (by omega) ?_
        intro L A9 c9 w9 _ hb9 HP X9
        obtain ⟨q0, q1⟩ := blk2 hb9
        obtain ⟨q2, q3⟩ := blk2f hb9
        have q4 := blk_lt hb9
        have HS9 : (w9).cell? ⟨bx, 1, none⟩ = some ov ∧ (w9).cell? ⟨w.heap.size, 0, none⟩ = some (.int .i64 g.n) ∧ (w9).cell? ⟨w.heap.size, 1, none⟩ = some (.slice A g.es.length c) ∧ (w9).cell? ⟨w.heap.size, 2, none⟩ = some (.slice A' g.cs.length c') := ⟨q1, BX.out _ X9⟩
        refine hK.out _ _ HS9 ?_
        clear hK K
        (try simp only [Act.put, List.setIfInBounds_toArray, List.set_cons_zero, List.set_cons_succ])
        refine' ordG_take 6 (oi := _) (v := _) ?_ ?_ ?_ (Or.inl ⟨?_, ?_⟩) ?_ ?_
        rotate_left 2
        · (simp only [List.getElem?_toArray, List.getElem?_cons_zero, List.getElem?_cons_succ]; rfl)
        · kernel_rfl
        · exact fun _ _ _ h => h
        · rfl
        · (intro w hSw; (try dsimp only at hSw); go_simp; (try with_reducible rfl))
        · exact HS9
        (try simp only [Act.put, List.setIfInBounds_toArray, List.set_cons_zero, List.set_cons_succ])
        refine ordG_last (by kernel_rfl) (by kernel_rfl) ?_
        refine' wpOp_step (o := _) ?_ (fun K hK => ?_)
        rotate_left 1
        · (simp only [List.getElem?_toArray, List.getElem?_cons_zero, List.getElem?_cons_succ]; rfl)
        go_simp
        refine hK _ _ ?_
        clear hK K
        (try simp only [Act.put, List.setIfInBounds_toArray, List.set_cons_zero, List.set_cons_succ])
        clear HS HS5 HS9 k0 k1 k2 c0 c1 q0 q1 q2 q3
        go_wp2
        go_roundw
        case rel => exact ⟨m + 1, _, by omega, by go_num, by rw [HK1.out, ← HM5.out]; exact HP.out⟩
        case measure => simp [intOf]; omega
      · obtain rfl : m = g.cs.length := by omega
        have hltn : ¬ ((g.cs.length : Int) < g.n) := by have := HNC.out; omega
        have B0 := hd (RX.out _ XF.out)
        obtain ⟨A9, c9, rfl, h91, h92⟩ := HF.out.own.form
        obtain ⟨r0, r1⟩ := blk2 B0.out
        obtain ⟨r2, r3⟩ := blk2f B0.out
        have r4 := blk_lt B0.out
        have OW := hd HF.out.own
        have X3 := hd (X0.out.trans XF.out)
        have hlo := HF.out.lo0
        generalize hL : (PC g.cs.length).length = L at *
        have HC := hd (blk2_set (x' := .int .i64 (g.es.length : Int)) (y' := .slice A9 L c9) B0.out)
        have hg3 := grown_set (grown_set (grown_refl wr (some (w.heap.size + 1))) 0 (.int .i64 (g.es.length : Int))) 1 (.slice A9 L c9)
        have OW2 := hd (((OW.out.box B0.out (by decide) (by decide) hg3).hi_le hg3.size).lo_le (lo' := w.heap.size) (by omega))
        have X4 := hd (ext_set (i := 1) (ext_set (i := 0) X3.out (g := w.heap.size + 1) (by omega) (.int .i64 (g.es.length : Int))) (g := w.heap.size + 1) (by omega) (.slice A9 L c9))
        clear hg3 hL
        go_wp2
        obtain ⟨p0, p1⟩ := blk2 HC.out
        rw [HQ.out]
        exact bodyPost_ret (v := .tuple #[.agg #[.int .i64 (g.es.length : Int), .slice A9 L c9], .bool true]) (by simp [results, Try.results7, go_sem, p0, p1]) rfl ⟨_, rfl, ⟨_, by rw [HVV.out.1], by rw [HVV.out.2]; exact OW2.out⟩, X4.out⟩
end Go.Proofs.Ytgkifandgacncaa
