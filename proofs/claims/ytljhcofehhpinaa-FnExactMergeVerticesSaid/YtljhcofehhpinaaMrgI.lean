/-
  MergeVertices of the program's side. Condition: sizes up to 2^20.
-/
import Derived.Test.YtljhcofehhpinaaMrgS
import Derived.Test.YtljhcofehhpinaaHo
import Derived.Laws.EntriesVeiled
namespace Go.Proofs.Ytljhcofehhpinaa
open Go.RowKit Go.Shelf
theorem name_world {c : Exit → Act → World → Prop} {e : Exit} {a : Act} {w : World} (F : World → Prop) (hF : F w) (h : ∀ W, F W → c e a W) : c e a w := h w hF
theorem bx_new {W0 W w5 : World} {n : Int} {u : Value} {cs : List Int} (hn : 0 ≤ n ∧ n ≤ 1000) (hX : Ext W0 W) (h5 : Ext W w5) (hu : OwnI w5 W.heap.size 3 u cs) :
    BxC W0 (w5.alloc (.cells #[.int .i64 (IntKind.i64.wrap n), .slice none 0 0, u] 27)) w5.heap.size W.heap.size n (.slice none 0 0) u [] cs ∧ Ext W (w5.alloc (.cells #[.int .i64 (IntKind.i64.wrap n), .slice none 0 0, u] 27)) := by
  have hw : IntKind.i64.wrap n = n := IntWalk.i64_in _ (by omega)
  have h1 := hX.size
  have h2 := h5.size
  rw [hw]
  exact ⟨⟨blk_new _ rfl, own_nil _ _ _ _, own_ext hu (Ext.new _ _), (hX.trans h5).alloc _, h1, by simp; omega, by omega⟩, h5.alloc _⟩
theorem bx_set {W0 W w5 : World} {n : Int} {u : Value} {cs : List Int} (hn : 0 ≤ n ∧ n ≤ 1000) (hX : Ext W0 W) (h5 : Ext W w5) (hz : w5.heap[W.heap.size]? = some zeroC) (hu : OwnI w5 W.heap.size 3 u cs) :
    BxC W0 (((w5.setCell ⟨W.heap.size, 0, none⟩ (.int .i64 (IntKind.i64.wrap n))).setCell ⟨W.heap.size, 1, none⟩ (.slice none 0 0)).setCell ⟨W.heap.size, 2, none⟩ u) W.heap.size W.heap.size n (.slice none 0 0) u [] cs ∧ Ext W (((w5.setCell ⟨W.heap.size, 0, none⟩ (.int .i64 (IntKind.i64.wrap n))).setCell ⟨W.heap.size, 1, none⟩ (.slice none 0 0)).setCell ⟨W.heap.size, 2, none⟩ u) := by
  have hw : IntKind.i64.wrap n = n := IntWalk.i64_in _ (by omega)
  have h1 := hX.size
  have h2 := h5.size
  rw [hw]
  exact ⟨⟨by simp [World.setCell, Array.getElem?_modify, hz], own_nil _ _ _ _, own_touch hu (touch_b3 _ _ _ _ _) fun b hb => by have := blk_ne hz (by decide) hu hb; omega, ext_b3 (hX.trans h5) h1, h1, by simp; omega, h1⟩, ext_b3 h5 (Nat.le_refl _)⟩
theorem BxC.setC {w0 w : World} {bx lo gb k L cp : Nat} {n x : Int} {ve : Value} {es : List (Int × Int)} {cs cs' : List Int} (h : BxC w0 w bx lo n ve (.slice (some ⟨gb, 0, none⟩) L cp) es cs) (ho : OwnI (w.setCell ⟨gb, k, none⟩ (.int .i64 x)) lo 3 (.slice (some ⟨gb, 0, none⟩) L cp) cs') :
    BxC w0 (w.setCell ⟨gb, k, none⟩ (.int .i64 x)) bx lo n ve (.slice (some ⟨gb, 0, none⟩) L cp) es cs' := by
  have hset : w.grownBy (w.setCell ⟨gb, k, none⟩ (.int .i64 x)) (some gb) := grown_set (grown_refl _ _) _ _
  have hg := (own_blocks h.owc gb rfl).1
  have hl := h.low
  refine ⟨(hset.block bx (blk_lt h.blk) (fun e => blk_ne h.blk (by decide) h.owc rfl (by injection e))).trans h.blk, own_grown h.own hset fun g a b => own_ne h.own h.owc (by decide) a (by injection b with b; rw [← b]; rfl), ho, ext_b1 h.ext (by omega), h.low, ?_, h.bxl⟩
  have := h.hig
  simpa using this
theorem BxC.keepE {w0 w wa w1 : World} {bx lo pa : Nat} {n : Int} {ve vc v' : Value} {es : List (Int × Int)} {cs : List Int} {ks : Array Value} (h : BxC w0 w bx lo n ve vc es cs) (ha : Ext w wa) (hg : wa.grownBy w1 ve.ownBlock) (hp : w.heap[pa]? = some (.cells ks 3 (0, 0))) :
    (w1.setCell ⟨bx, 1, none⟩ v').heap[pa]? = some (.cells ks 3 (0, 0)) := by
  have h1 := ha.heap hp
  have h2 : w1.heap[pa]? = some (.cells ks 3 (0, 0)) := (hg.block pa (blk_lt h1) (fun e => blk_ne h1 (by decide) (own_ext h.own ha) e.symm rfl)).trans h1
  have hset : w1.grownBy (w1.setCell ⟨bx, 1, none⟩ v') (some bx) := grown_set (grown_refl _ _) _ _
  refine (hset.block pa (blk_lt h2) (fun e => ?_)).trans h2
  injection e with e
  subst e
  rw [h.blk] at hp
  injection hp with hp
  injection hp with _ hp _
  exact absurd hp (by decide)
theorem i_ren (a b v : Int) (pa pb : Nat) (w : World) (ha : w.cell? ⟨pa, 0, none⟩ = some (.int .i64 a)) (hb : w.cell? ⟨pb, 0, none⟩ = some (.int .i64 b)) (hv : -1000 ≤ v ∧ v ≤ 1000) :
    Calls Try.prog 33 #[.int .i64 v, .pointer (some ⟨pb, 0, none⟩), .pointer (some ⟨pa, 0, none⟩)] w (Ret w (.int .i64 (ren a b v))) := by
  obtain ⟨hv1, hv2⟩ := hv
  by_cases h1 : v = b
  · have HR : Hid (ren a b v = a) := hd (by unfold ren; rw [if_pos h1])
    have hb1 : (v == b) = true := by simp [h1]
    clear h1
    go_enter Try.func33, Try.ntmps33
    go_wp2
    go_ret
    exact Ret.mk (by rw [HR.out]; rfl)
  have hb1 : (v == b) = false := by simp [h1]
  by_cases h2 : b < v
  · have HR : Hid (ren a b v = v - 1) := hd (by unfold ren; rw [if_neg h1, if_pos h2])
    clear h1
    go_enter Try.func33, Try.ntmps33
    go_wp2
    go_ret
    exact Ret.mk (by rw [HR.out]; rfl)
  · have HR : Hid (ren a b v = v) := hd (by unfold ren; rw [if_neg h1, if_neg h2])
    clear h1
    go_enter Try.func33, Try.ntmps33
    go_wp2
    go_ret
    exact Ret.mk (by rw [HR.out]; rfl)
theorem enters_MergeVertices1 : Enters 33 := fun args w => by kernel_rfl
set_option maxRecDepth 100000 in
set_option maxHeartbeats 25600000 in
theorem i_MergeVertices (g : Chg) (gv : Value) (k : Int) (w : World) (h : RdC w gv g) (_ : Bd_Charged g) (_ : I64_Charged g) (_ : I64 k) :
    Calls Try.prog 10 #[gv, .int .i64 k] w (RetC2 w (mrgV g k) (mrgB g k)) := by
  have HGG := hd h
  obtain ⟨ve, vc, rfl, hE, hC⟩ := h
  obtain ⟨A, c, rfl, h1, h2, ha⟩ := hE.form
  obtain ⟨A', c', rfl, h3, h4, ha'⟩ := hC.form
  have HG := HGG
  clear hE hC HGG
  have X0 : Hid (Ext w ((w.alloc (.cells #[.int .i64 g.n, .slice A g.es.length c, .slice A' g.cs.length c'] 27)).alloc zeroC)) := hd ((Ext.new _ _).alloc _)
  have BX : Hid (∀ w' : World, Ext ((w.alloc (.cells #[.int .i64 g.n, .slice A g.es.length c, .slice A' g.cs.length c'] 27)).alloc zeroC) w' → w'.cell? ⟨w.heap.size, 0, none⟩ = some (.int .i64 g.n) ∧ w'.cell? ⟨w.heap.size, 1, none⟩ = some (.slice A g.es.length c) ∧ w'.cell? ⟨w.heap.size, 2, none⟩ = some (.slice A' g.cs.length c')) := hd fun w' hx => blk3 (hx.heap (blk_old (blk_new (w := w) (.cells #[.int .i64 g.n, .slice A g.es.length c, .slice A' g.cs.length c'] 27) rfl)))
  have RX : Hid (∀ w' : World, Ext ((w.alloc (.cells #[.int .i64 g.n, .slice A g.es.length c, .slice A' g.cs.length c'] 27)).alloc zeroC) w' → w'.heap[w.heap.size + 1]? = some zeroC) := hd fun w' hx => hx.heap (blk_new _ (by simp))
  obtain ⟨W0, hW0⟩ : ∃ W0, W0 = (w.alloc (.cells #[.int .i64 g.n, .slice A g.es.length c, .slice A' g.cs.length c'] 27)).alloc zeroC := ⟨_, rfl⟩
  have hz0 : w.heap.size + 2 = W0.heap.size := by rw [hW0]; simp
  have HW0 := hd hW0
  rw [← hW0] at X0 BX RX
  clear hW0
  obtain ⟨q0, hq0⟩ : ∃ q, goodC g = q := ⟨_, rfl⟩
  have HQ0 := hd hq0
  have HGI := hd (fun e => goodC_inv (hq0.trans e) : q0 = true → _)
  clear hq0
  cases q0
  · have HN := hd (mrg_no (g := g) (k := k) (by unfold edgeB; rw [HQ0.out]; rfl))
    go_enter Try.func10, Try.ntmps10
    go_wp2_with fail
    rw [← HW0.out]
    refine (i_IsCharged g _ _ (HG.out.ext X0.out)).mono ?_
    rw [HQ0.out]
    rintro e w1 ⟨rfl, hx1⟩
    obtain ⟨c0, c1, c2⟩ := blk3 (RX.out _ hx1)
    obtain ⟨f0, f1, f2⟩ := blk3f (RX.out _ hx1)
    have hs := hx1.size
    go_wp2
    exact bodyPost_ret (v := .tuple #[.agg #[.int .i64 0, .slice none 0 0, .slice none 0 0], .bool false]) (by simp [results, Try.results10, go_sem, c0, c1, c2]) rfl ⟨_, by rw [HN.out.1], by rw [HN.out.2]; exact ownC_zero, ext_b3 (X0.out.trans hx1) (by omega)⟩
  obtain ⟨-, -, hes12, -⟩ := HGI.out rfl
  obtain ⟨q, hq⟩ : ∃ q, inB k 0 ((g.es.length : Int) - 1) = q := ⟨_, rfl⟩
  have HEB : Hid (edgeB g k = q) := hd (by unfold edgeB; rw [HQ0.out, hq]; rfl)
  have HQ := hd hq
  have HI := hd (fun e => edgeB_inv (HEB.out.trans e) : q = true → _)
  clear hq
  cases q
  · have HN := hd (mrg_no HEB.out)
    go_enter Try.func10, Try.ntmps10
    go_wp2_with fail
    rw [← HW0.out]
    refine (i_IsCharged g _ _ (HG.out.ext X0.out)).mono ?_
    rw [HQ0.out]
    rintro e w1 ⟨rfl, hx1⟩
    obtain ⟨k0, k1, k2⟩ := BX.out _ hx1
    go_wp2_with fail
    refine (i_isEdge g _ k _ (HG.out.ext (X0.out.trans hx1)) hes12).mono ?_
    rw [HQ.out]
    rintro e w2 ⟨rfl, hx2⟩
    have hx3 := hx1.trans hx2
    obtain ⟨c0, c1, c2⟩ := blk3 (RX.out _ hx3)
    obtain ⟨f0, f1, f2⟩ := blk3f (RX.out _ hx3)
    have hs := hx3.size
    go_wp2
    exact bodyPost_ret (v := .tuple #[.agg #[.int .i64 0, .slice none 0 0, .slice none 0 0], .bool false]) (by simp [results, Try.results10, go_sem, c0, c1, c2]) rfl ⟨_, by rw [HN.out.1], by rw [HN.out.2]; exact ownC_zero, ext_b3 (X0.out.trans hx3) (by omega)⟩
  · obtain ⟨hgood, j, rfl, hj, a, b, hEA, hje, hab, hbl⟩ := HI.out rfl
    obtain ⟨hn1, hn8, hes, hcs, hee, hc01, -⟩ := goodC_inv hgood
    have HES := hd hee
    have HG01 := hd hc01
    clear hee hc01 hgood HI HGI
    have HGG : Hid (mrgG g (j : Int) = ⟨g.n - 1, mrgE a b g.es, mrgC g.cs a b⟩) := hd (by unfold mrgG; rw [hEA]; simp)
    have HGB : Hid (mrgB g (j : Int) = goodC ⟨g.n - 1, mrgE a b g.es, mrgC g.cs a b⟩) := hd (by unfold mrgB; rw [HEB.out, HGG.out]; rfl)
    have hjj : g.es[j] = ((a : Int), (b : Int)) := by have := List.getElem?_eq_getElem hj; rw [hje] at this; exact (Option.some.inj this).symm
    obtain ⟨a1, rfl, hj0, hj1⟩ := RdP.at_ ha hj
    rw [hjj] at hj0 hj1
    dsimp only at hj0 hj1
    have HJ := hd (fun (w' : World) (hx : Ext w w') => And.intro (hx.cell hj0) (hx.cell hj1))
    clear hEA hje hjj hj0 hj1
    have ha2 : a < g.cs.length := by omega
    obtain ⟨a1', rfl, -⟩ := RdI.at_ ha' ha2
    have HCS : Hid (∀ (w' : World) (i : Nat) (hi : i < g.cs.length), Ext w w' → w'.cell? (a1'.add i) = some (.int .i64 g.cs[i]) ∧ 0 ≤ g.cs[i] ∧ g.cs[i] ≤ 1) := hd fun w' i hi hx => by
      obtain ⟨a9, h9, hc⟩ := RdI.at_ ha' hi
      cases h9
      exact ⟨hx.cell hc, HG01.out _ (List.getElem_mem hi)⟩
    have HNL := hd hcs
    clear hcs
    have hge := enters_MergeVertices1
    unfold Enters at hge
    go_enter Try.func10, Try.ntmps10
    go_wp2_with fail
    rw [← HW0.out]
    refine (i_IsCharged g _ _ (HG.out.ext X0.out)).mono ?_
    rw [HQ0.out]
    rintro e w1 ⟨rfl, hx1⟩
    obtain ⟨k0, k1, k2⟩ := BX.out _ hx1
    go_wp2_with fail
    refine (i_isEdge g _ (j : Int) _ (HG.out.ext (X0.out.trans hx1)) hes12).mono ?_
    rw [HQ.out]
    rintro e w2 ⟨rfl, hx2⟩
    have X2 := hd (hx1.trans hx2)
    have hs2 := X2.out.size
    clear k0 k1 k2 hx1 hx2
    obtain ⟨k0, k1, k2⟩ := BX.out _ X2.out
    obtain ⟨hj0, hj1⟩ := HJ.out _ (X0.out.trans X2.out)
    have KP := hd (fun (w' : World) (hx : Ext w2 w') => And.intro (hx.cell k1) (And.intro (hx.cell hj0) (hx.cell hj1)))
    go_wp2_with fail
    go_region_held3 (fun w' => w'.cell? ⟨w.heap.size, 1, none⟩ = some (.slice (some a1) g.es.length c) ∧ w'.cell? (a1.add (j * 2)) = some (.int .i64 (a : Int)) ∧ w'.cell? ⟨(a1.add (j * 2)).block, (a1.add (j * 2)).off + 1, none⟩ = some (.int .i64 (b : Int)))
      ((exact KP.out _ (by repeat (first | exact Ext.refl _ | assumption | apply Ext.drew | refine Ext.alloc ?_ _ | refine ext_b1 ?_ (by simp)))))
      (fail)
    all_goals first
      | (refine name_world (fun W => Ext W0 W ∧ W.heap[w2.heap.size]? = some (.cells #[.int .i64 (a : Int)] 3 (0, 0)) ∧ W.heap[w2.heap.size + 1]? = some (.cells #[.int .i64 (b : Int)] 3 (0, 0))) ?_ ?_
         · refine ⟨?_, ?_, ?_⟩
           · repeat (first | exact X2.out | apply Ext.drew | refine Ext.alloc ?_ _)
           · exact (blk_old (blk_new _ rfl) : ((w2.alloc _).alloc _).heap[(_ : Nat)]? = _)
           · exact (blk_new (w := w2.alloc _) _ (by simp) : ((w2.alloc _).alloc _).heap[(w2.heap.size + 1 : Nat)]? = _)
         rintro W ⟨hWX, hWa, hWb⟩
         have hpa := blk_lt hWa
         have hpb := blk_lt hWb
         obtain ⟨pa, hpa0⟩ : ∃ pa, pa = w2.heap.size := ⟨_, rfl⟩
         obtain ⟨pb, hpb0⟩ : ∃ pb, pb = w2.heap.size + 1 := ⟨_, rfl⟩
         have hpa1 : W0.heap.size ≤ pa := by omega
         have hpb1 : W0.heap.size ≤ pb := by omega
         rw [← hpb0] at hWb hpb ⊢
         rw [← hpa0] at hWa hpa ⊢
         clear hpa0 hpb0)
      | (refine name_world (fun W => Ext W0 W ∧ W.heap[w2.heap.size + 1]? = some (.cells #[.int .i64 (a : Int)] 3 (0, 0)) ∧ W.heap[w2.heap.size]? = some (.cells #[.int .i64 (b : Int)] 3 (0, 0))) ?_ ?_
         · refine ⟨?_, ?_, ?_⟩
           · repeat (first | exact X2.out | apply Ext.drew | refine Ext.alloc ?_ _)
           · exact (blk_new (w := w2.alloc _) _ (by simp) : ((w2.alloc _).alloc _).heap[(w2.heap.size + 1 : Nat)]? = _)
           · exact (blk_old (blk_new _ rfl) : ((w2.alloc _).alloc _).heap[(_ : Nat)]? = _)
         rintro W ⟨hWX, hWa, hWb⟩
         have hpa := blk_lt hWa
         have hpb := blk_lt hWb
         obtain ⟨pa, hpa0⟩ : ∃ pa, pa = w2.heap.size + 1 := ⟨_, rfl⟩
         obtain ⟨pb, hpb0⟩ : ∃ pb, pb = w2.heap.size := ⟨_, rfl⟩
         have hpa1 : W0.heap.size ≤ pa := by omega
         have hpb1 : W0.heap.size ≤ pb := by omega
         rw [← hpa0] at hWa hpa ⊢
         rw [← hpb0] at hWb hpb ⊢
         clear hpa0 hpb0)
    all_goals
      clear k0 k1 k2 hj0 hj1 KP
      have XW := hd hWX
      have HA := hd hWa
      have HBb := hd hWb
      clear hWX hWa hWb
      obtain ⟨k0, k1, k2⟩ := BX.out _ XW.out
      have vb : W.cell? ⟨pb, 0, none⟩ = some (.int .i64 (b : Int)) := by simp [World.cell?, HBb.out]
      have KP := hd (fun (w' : World) (hx : Ext W w') => And.intro (hx.cell k0) (And.intro (hx.cell k2) (hx.cell vb)))
      have HWO : Hid (∀ w', Ext W w' → Calls Try.prog 34 #[.slice (some a1') g.cs.length c', .int .i64 (b : Int)] w' (RetI w' 3 (g.cs.take b ++ g.cs.drop (b + 1)))) := hd fun w' hx => i_without g.cs _ b w' (RdI.ext ha'.out (X0.out.trans (XW.out.trans hx))) (by have := HNL.out; omega) hbl
      go_wp2_with fail
      refine wp_region_sink (fun w' => (w').cell? ⟨w.heap.size, 0, none⟩ = some (.int .i64 g.n) ∧ (w').cell? ⟨w.heap.size, 2, none⟩ = some (.slice (some a1') g.cs.length c') ∧ (w').cell? ⟨pb, 0, none⟩ = some (.int .i64 (b : Int))) 9 10 #[false, false, false, false, false, false, false, false, false, false] (by kernel_rfl) (by kernel_rfl) (by kernel_rfl) ?_
      have HS : (W.drew).cell? ⟨w.heap.size, 0, none⟩ = some (.int .i64 g.n) ∧ (W.drew).cell? ⟨w.heap.size, 2, none⟩ = some (.slice (some a1') g.cs.length c') ∧ (W.drew).cell? ⟨pb, 0, none⟩ = some (.int .i64 (b : Int)) := KP.out _ (Ext.refl _).drew
      refine' ordG_take 0 (oi := _) (v := _) ?_ ?_ ?_ (Or.inl ⟨?_, ?_⟩) ?_ ?_
      rotate_left 2
      · (simp only [List.getElem?_toArray, List.getElem?_cons_zero]; rfl)
      · kernel_rfl
      · exact fun _ _ _ h => h
      · rfl
      · (intro w hSw; (try dsimp only at hSw); go_simp; (try with_reducible rfl))
      · exact HS
      (try simp only [Act.put, List.setIfInBounds_toArray, List.set_cons_zero, List.set_cons_succ])
      refine' ordG_take 1 (oi := _) (v := _) ?_ ?_ ?_ (Or.inl ⟨?_, ?_⟩) ?_ ?_
      rotate_left 2
      · (simp only [List.getElem?_toArray, List.getElem?_cons_zero, List.getElem?_cons_succ]; rfl)
      · kernel_rfl
      · exact fun _ _ _ h => h
      · rfl
      · (intro w hSw; (try dsimp only at hSw); go_simp; (try with_reducible rfl))
      · exact HS
      (try simp only [Act.put, List.setIfInBounds_toArray, List.set_cons_zero, List.set_cons_succ])
      refine' ordG_take 2 (oi := _) (v := _) ?_ ?_ ?_ (Or.inl ⟨?_, ?_⟩) ?_ ?_
      rotate_left 2
      · (simp only [List.getElem?_toArray, List.getElem?_cons_zero, List.getElem?_cons_succ]; rfl)
      · kernel_rfl
      · exact fun _ _ _ h => h
      · rfl
      · (intro w hSw; (try dsimp only at hSw); go_simp; (try with_reducible rfl))
      · exact HS
      (try simp only [Act.put, List.setIfInBounds_toArray, List.set_cons_zero, List.set_cons_succ])
      refine' ordG_take 3 (oi := _) (v := _) ?_ ?_ ?_ (Or.inl ⟨?_, ?_⟩) ?_ ?_
      rotate_left 2
      · (simp only [List.getElem?_toArray, List.getElem?_cons_zero, List.getElem?_cons_succ]; rfl)
      · kernel_rfl
      · exact fun _ _ _ h => h
      · rfl
      · (intro w hSw; (try dsimp only at hSw); go_simp; (try with_reducible rfl))
      · exact HS
      (try simp only [Act.put, List.setIfInBounds_toArray, List.set_cons_zero, List.set_cons_succ])
      refine' ordG_take 4 (oi := _) (v := _) ?_ ?_ ?_ (Or.inl ⟨?_, ?_⟩) ?_ ?_
      rotate_left 2
      · (simp only [List.getElem?_toArray, List.getElem?_cons_zero, List.getElem?_cons_succ]; rfl)
      · kernel_rfl
      · exact fun _ _ _ h => h
      · rfl
      · (intro w hSw; (try dsimp only at hSw); go_simp; (try with_reducible rfl))
      · exact HS
      (try simp only [Act.put, List.setIfInBounds_toArray, List.set_cons_zero, List.set_cons_succ])
      refine' ordG_take 5 (oi := _) (v := _) ?_ ?_ ?_ (Or.inl ⟨?_, ?_⟩) ?_ ?_
      rotate_left 2
      · (simp only [List.getElem?_toArray, List.getElem?_cons_zero, List.getElem?_cons_succ]; rfl)
      · kernel_rfl
      · exact fun _ _ _ h => h
      · rfl
      · (intro w hSw; (try dsimp only at hSw); go_simp; (try with_reducible rfl))
      · exact HS
      (try simp only [Act.put, List.setIfInBounds_toArray, List.set_cons_zero, List.set_cons_succ])
      refine ordG_all (rs := [6, 8]) (by kernel_rfl) (by simp) (by decide) ?_
      refine' ordG_cons (o := _) ?_ (fun K hK => ?_) ?_
      rotate_left 1
      · (simp only [List.getElem?_toArray, List.getElem?_cons_zero, List.getElem?_cons_succ]; rfl)
      ·
        go_simp
        go_at_call 34
        refine (HWO.out _ (Ext.refl _).drew).mono ?_
        rintro e w5 ⟨u, rfl, hu, hx5⟩
        obtain ⟨A5, L5, c5, rfl⟩ : ∃ A L c, u = .slice A L c := by
          obtain ⟨A, c, h, -⟩ := OwnI.form hu
          exact ⟨_, _, _, h⟩
        have HX5 : Hid (Ext W w5) := hd (Ext.trans (Ext.refl _).drew hx5)
        have HU5 : Hid (OwnI w5 W.heap.size 3 (.slice A5 L5 c5) (g.cs.take b ++ g.cs.drop (b + 1))) := hd (own_rebase hu (by simp))
        have HS5 : (w5).cell? ⟨w.heap.size, 0, none⟩ = some (.int .i64 g.n) ∧ (w5).cell? ⟨w.heap.size, 2, none⟩ = some (.slice (some a1') g.cs.length c') ∧ (w5).cell? ⟨pb, 0, none⟩ = some (.int .i64 (b : Int)) := KP.out _ HX5.out
        go_simp
        refine hK.out _ _ HS5 ?_
        clear hK K
        (try simp only [List.setIfInBounds_toArray, List.set_cons_zero, List.set_cons_succ])
        refine' ordG_take 7 (oi := _) (v := _) ?_ ?_ ?_ (Or.inl ⟨?_, ?_⟩) ?_ ?_
        rotate_left 2
        · (simp only [List.getElem?_toArray, List.getElem?_cons_zero, List.getElem?_cons_succ]; rfl)
        · kernel_rfl
        · exact fun _ _ _ h => h
        · rfl
        · (intro w hSw; (try dsimp only at hSw); go_simp; (try with_reducible rfl))
        · exact HS5
        (try simp only [Act.put, List.setIfInBounds_toArray, List.set_cons_zero, List.set_cons_succ])
        refine ordG_all (rs := [8]) (by kernel_rfl) (by simp) (by decide) ?_
        refine' ordG_cons (o := _) ?_ (fun K hK => ?_) ?_
        rotate_left 1
        · (simp only [List.getElem?_toArray, List.getElem?_cons_zero, List.getElem?_cons_succ]; rfl)
        ·
          go_simp
          refine hK.out _ _ (KP.out _ (HX5.out.alloc _)) ?_
          clear hK K
          (try simp only [List.setIfInBounds_toArray, List.set_cons_zero, List.set_cons_succ])
          refine ordG_last (by kernel_rfl) (by kernel_rfl) ?_
          refine' wpOp_step (o := _) ?_ (fun K hK => ?_)
          rotate_left 1
          · (simp only [List.getElem?_toArray, List.getElem?_cons_zero, List.getElem?_cons_succ]; rfl)
          ·
            go_simp
            refine hK _ _ ?_
            clear hK K
            (try simp only [Act.put, List.setIfInBounds_toArray, List.set_cons_zero, List.set_cons_succ])
            refine name_world (fun W5 => BxC W0 W5 w5.heap.size W.heap.size (g.n - 1) (.slice none 0 0) (.slice A5 L5 c5) [] (g.cs.take b ++ g.cs.drop (b + 1)) ∧ Ext W W5) ?_ ?_
            · exact bx_new (by omega) XW.out HX5.out HU5.out
            rintro W5 ⟨hB5, hW5⟩
            have hbx5 : W.heap.size ≤ w5.heap.size := HX5.out.size
            generalize w5.heap.size = bx at *
            have HB5 := hd hB5
            have HW5 := hd hW5
            clear hB5 hW5
            have HLC : Hid (L5 = g.cs.length - 1) := hd (by have := HU5.out.1; simp [ints] at this; obtain ⟨A9, c9, h9, -⟩ := OwnI.form HU5.out; injection h9 with _ h9 _; rw [h9]; simp; omega)
            obtain ⟨h9, -, -⟩ | ⟨gb, cp, h9, hgb, hgl, hnc, hcm⟩ := own_form HB5.out.owc
            · exfalso; injection h9 with _ h9 _; have := HLC.out; omega
            injection h9 with h9 h9' h9''
            subst h9
            subst h9''
            clear h9'
            obtain ⟨c0, c1, c2⟩ := blk3 HB5.out.blk
            have HAX := hd (HW5.out.heap HA.out)
            have HBX := hd (HW5.out.heap HBb.out)
            have va5 : W5.cell? ⟨pa, 0, none⟩ = some (.int .i64 (a : Int)) := by simp [World.cell?, HAX.out]
            have vb5 : W5.cell? ⟨pb, 0, none⟩ = some (.int .i64 (b : Int)) := by simp [World.cell?, HBX.out]
            obtain ⟨-, -, k52⟩ := BX.out _ HB5.out.ext
            have HMS : Hid (mrgS g.cs a b = (g.cs[a] + g.cs[b]) % 2) := hd (by unfold mrgS; rw [List.getElem?_eq_getElem ha2, List.getElem?_eq_getElem hbl]; rfl)
            obtain ⟨xa, xa0, xa1⟩ := HCS.out W5 a ha2 (X0.out.trans HB5.out.ext)
            obtain ⟨xb, xb0, xb1⟩ := HCS.out W5 b hbl (X0.out.trans HB5.out.ext)
            generalize g.cs[a] = ca at *
            generalize g.cs[b] = cb at *
            have haL : a < L5 := by have := HLC.out; omega
            have ea1 : (0 : Int) ≤ (a : Int) := by omega
            have ea2 : (a : Int) < (L5 : Int) := by omega
            have ea3 : (a : Int) < (g.cs.length : Int) := by omega
            have eb1 : (0 : Int) ≤ (b : Int) := by omega
            have eb2 : (b : Int) < (g.cs.length : Int) := by omega
            obtain ⟨⟨u0, sc⟩, sf, HST⟩ := ownI_store HB5.out.owc (by have := HLC.out; simp; omega) haL
            go_wp2_with fail
            refine wp_region_sink (fun w' => (w').cell? ⟨bx, 2, none⟩ = some (.slice (some ⟨gb, 0, none⟩) L5 c5) ∧ (w').cell? ⟨pa, 0, none⟩ = some (.int .i64 (a : Int)) ∧ (w').cell? ⟨pb, 0, none⟩ = some (.int .i64 (b : Int)) ∧ (w').cell? ⟨w.heap.size, 2, none⟩ = some (.slice (some a1') g.cs.length c') ∧ (w').cell? (a1'.add a) = some (.int .i64 ca) ∧ (w').cell? (a1'.add b) = some (.int .i64 cb)) 16 17 #[false, false, false, false, false, false, false, false, false, false, false, false, false, false, false, false, false] (by kernel_rfl) (by kernel_rfl) (by kernel_rfl) ?_
            have HS : (W5.drew).cell? ⟨bx, 2, none⟩ = some (.slice (some ⟨gb, 0, none⟩) L5 c5) ∧ (W5.drew).cell? ⟨pa, 0, none⟩ = some (.int .i64 (a : Int)) ∧ (W5.drew).cell? ⟨pb, 0, none⟩ = some (.int .i64 (b : Int)) ∧ (W5.drew).cell? ⟨w.heap.size, 2, none⟩ = some (.slice (some a1') g.cs.length c') ∧ (W5.drew).cell? (a1'.add a) = some (.int .i64 ca) ∧ (W5.drew).cell? (a1'.add b) = some (.int .i64 cb) := ⟨c2, va5, vb5, k52, xa, xb⟩
            refine' ordG_take 0 (oi := _) (v := _) ?_ ?_ ?_ (Or.inl ⟨?_, ?_⟩) ?_ ?_
            rotate_left 2
            · (simp only [List.getElem?_toArray, List.getElem?_cons_zero]; rfl)
            · kernel_rfl
            · exact fun _ _ _ h => h
            · rfl
            · (intro w hSw; (try dsimp only at hSw); go_simp; (try with_reducible rfl))
            · exact HS
            (try simp only [Act.put, List.setIfInBounds_toArray, List.set_cons_zero, List.set_cons_succ])
            refine' ordG_take 1 (oi := _) (v := _) ?_ ?_ ?_ (Or.inl ⟨?_, ?_⟩) ?_ ?_
            rotate_left 2
            · (simp only [List.getElem?_toArray, List.getElem?_cons_zero, List.getElem?_cons_succ]; rfl)
            · kernel_rfl
            · exact fun _ _ _ h => h
            · rfl
            · (intro w hSw; (try dsimp only at hSw); go_simp; (try with_reducible rfl))
            · exact HS
            (try simp only [Act.put, List.setIfInBounds_toArray, List.set_cons_zero, List.set_cons_succ])
            refine' ordG_take 2 (oi := _) (v := _) ?_ ?_ ?_ (Or.inl ⟨?_, ?_⟩) ?_ ?_
            rotate_left 2
            · (simp only [List.getElem?_toArray, List.getElem?_cons_zero, List.getElem?_cons_succ]; rfl)
            · kernel_rfl
            · exact fun _ _ _ h => h
            · rfl
            · (intro w hSw; (try dsimp only at hSw); go_simp; (try with_reducible rfl))
            · exact HS
            (try simp only [Act.put, List.setIfInBounds_toArray, List.set_cons_zero, List.set_cons_succ])
            refine' ordG_take 3 (oi := _) (v := _) ?_ ?_ ?_ (Or.inl ⟨?_, ?_⟩) ?_ ?_
            rotate_left 2
            · (simp only [List.getElem?_toArray, List.getElem?_cons_zero, List.getElem?_cons_succ]; rfl)
            · kernel_rfl
            · exact fun _ _ _ h => h
            · rfl
            · (intro w hSw; (try dsimp only at hSw); go_simp; (try with_reducible rfl))
            · exact HS
            (try simp only [Act.put, List.setIfInBounds_toArray, List.set_cons_zero, List.set_cons_succ])
            refine' ordG_take 4 (oi := _) (v := _) ?_ ?_ ?_ (Or.inl ⟨?_, ?_⟩) ?_ ?_
            rotate_left 2
            · (simp only [List.getElem?_toArray, List.getElem?_cons_zero, List.getElem?_cons_succ]; rfl)
            · kernel_rfl
            · exact fun _ _ _ h => h
            · rfl
            · (intro w hSw; (try dsimp only at hSw); go_simp; (try with_reducible rfl))
            · exact HS
            (try simp only [Act.put, List.setIfInBounds_toArray, List.set_cons_zero, List.set_cons_succ])
            refine' ordG_take 5 (oi := _) (v := _) ?_ ?_ ?_ (Or.inl ⟨?_, ?_⟩) ?_ ?_
            rotate_left 2
            · (simp only [List.getElem?_toArray, List.getElem?_cons_zero, List.getElem?_cons_succ]; rfl)
            · kernel_rfl
            · exact fun _ _ _ h => h
            · rfl
            · (intro w hSw; (try dsimp only at hSw); go_simp; (try with_reducible rfl))
            · exact HS
            (try simp only [Act.put, List.setIfInBounds_toArray, List.set_cons_zero, List.set_cons_succ])
            refine' ordG_take 6 (oi := _) (v := _) ?_ ?_ ?_ (Or.inl ⟨?_, ?_⟩) ?_ ?_
            rotate_left 2
            · (simp only [List.getElem?_toArray, List.getElem?_cons_zero, List.getElem?_cons_succ]; rfl)
            · kernel_rfl
            · exact fun _ _ _ h => h
            · rfl
            · (intro w hSw; (try dsimp only at hSw); go_simp; (try with_reducible rfl))
            · exact HS
            (try simp only [Act.put, List.setIfInBounds_toArray, List.set_cons_zero, List.set_cons_succ])
            refine' ordG_take 7 (oi := _) (v := _) ?_ ?_ ?_ (Or.inl ⟨?_, ?_⟩) ?_ ?_
            rotate_left 2
            · (simp only [List.getElem?_toArray, List.getElem?_cons_zero, List.getElem?_cons_succ]; rfl)
            · kernel_rfl
            · exact fun _ _ _ h => h
            · rfl
            · (intro w hSw; (try dsimp only at hSw); go_simp; (try with_reducible rfl))
            · exact HS
            (try simp only [Act.put, List.setIfInBounds_toArray, List.set_cons_zero, List.set_cons_succ])
            refine' ordG_take 8 (oi := _) (v := _) ?_ ?_ ?_ (Or.inl ⟨?_, ?_⟩) ?_ ?_
            rotate_left 2
            · (simp only [List.getElem?_toArray, List.getElem?_cons_zero, List.getElem?_cons_succ]; rfl)
            · kernel_rfl
            · exact fun _ _ _ h => h
            · rfl
            · (intro w hSw; (try dsimp only at hSw); go_simp; (try with_reducible rfl))
            · exact HS
            (try simp only [Act.put, List.setIfInBounds_toArray, List.set_cons_zero, List.set_cons_succ])
            refine' ordG_take 9 (oi := _) (v := _) ?_ ?_ ?_ (Or.inl ⟨?_, ?_⟩) ?_ ?_
            rotate_left 2
            · (simp only [List.getElem?_toArray, List.getElem?_cons_zero, List.getElem?_cons_succ]; rfl)
            · kernel_rfl
            · exact fun _ _ _ h => h
            · rfl
            · (intro w hSw; (try dsimp only at hSw); go_simp; (try with_reducible rfl))
            · exact HS
            (try simp only [Act.put, List.setIfInBounds_toArray, List.set_cons_zero, List.set_cons_succ])
            refine' ordG_take 10 (oi := _) (v := _) ?_ ?_ ?_ (Or.inl ⟨?_, ?_⟩) ?_ ?_
            rotate_left 2
            · (simp only [List.getElem?_toArray, List.getElem?_cons_zero, List.getElem?_cons_succ]; rfl)
            · kernel_rfl
            · exact fun _ _ _ h => h
            · rfl
            · (intro w hSw; (try dsimp only at hSw); go_simp; (try with_reducible rfl))
            · exact HS
            (try simp only [Act.put, List.setIfInBounds_toArray, List.set_cons_zero, List.set_cons_succ])
            refine' ordG_take 11 (oi := _) (v := _) ?_ ?_ ?_ (Or.inl ⟨?_, ?_⟩) ?_ ?_
            rotate_left 2
            · (simp only [List.getElem?_toArray, List.getElem?_cons_zero, List.getElem?_cons_succ]; rfl)
            · kernel_rfl
            · exact fun _ _ _ h => h
            · rfl
            · (intro w hSw; (try dsimp only at hSw); go_simp; (try with_reducible rfl))
            · exact HS
            (try simp only [Act.put, List.setIfInBounds_toArray, List.set_cons_zero, List.set_cons_succ])
            refine' ordG_take 12 (oi := _) (v := _) ?_ ?_ ?_ (Or.inl ⟨?_, ?_⟩) ?_ ?_
            rotate_left 2
            · (simp only [List.getElem?_toArray, List.getElem?_cons_zero, List.getElem?_cons_succ]; rfl)
            · kernel_rfl
            · exact fun _ _ _ h => h
            · rfl
            · (intro w hSw; (try dsimp only at hSw); go_simp; (try with_reducible rfl))
            · exact HS
            (try simp only [Act.put, List.setIfInBounds_toArray, List.set_cons_zero, List.set_cons_succ])
            refine' ordG_take 13 (oi := _) (v := _) ?_ ?_ ?_ (Or.inl ⟨?_, ?_⟩) ?_ ?_
            rotate_left 2
            · (simp only [List.getElem?_toArray, List.getElem?_cons_zero, List.getElem?_cons_succ]; rfl)
            · kernel_rfl
            · exact fun _ _ _ h => h
            · rfl
            · (intro w hSw; (try dsimp only at hSw); go_simp; (try with_reducible rfl))
            · exact HS
            (try simp only [Act.put, List.setIfInBounds_toArray, List.set_cons_zero, List.set_cons_succ])
            refine' ordG_take 14 (oi := _) (v := _) ?_ ?_ ?_ (Or.inl ⟨?_, ?_⟩) ?_ ?_
            rotate_left 2
            · (simp only [List.getElem?_toArray, List.getElem?_cons_zero, List.getElem?_cons_succ]; rfl)
            · kernel_rfl
            · exact fun _ _ _ h => h
            · rfl
            · (intro w hSw; (try dsimp only at hSw); go_simp; (try with_reducible rfl))
            · exact HS
            (try simp only [Act.put, List.setIfInBounds_toArray, List.set_cons_zero, List.set_cons_succ])
            refine' ordG_take 15 (oi := _) (v := _) ?_ ?_ ?_ (Or.inl ⟨?_, ?_⟩) ?_ ?_
            rotate_left 2
            · (simp only [List.getElem?_toArray, List.getElem?_cons_zero, List.getElem?_cons_succ]; rfl)
            · kernel_rfl
            · exact fun _ _ _ h => h
            · rfl
            · (intro w hSw; (try dsimp only at hSw); go_simp; (try with_reducible rfl))
            · exact HS
            (try simp only [Act.put, List.setIfInBounds_toArray, List.set_cons_zero, List.set_cons_succ])
            refine ordG_last (by kernel_rfl) (by kernel_rfl) ?_
            refine' wpOp_step (o := _) ?_ (fun K hK => ?_)
            rotate_left 1
            · (simp only [List.getElem?_toArray, List.getElem?_cons_zero, List.getElem?_cons_succ]; rfl)
            ·
              go_simp
              refine hK _ _ ?_
              clear hK K
              (try simp only [Act.put, List.setIfInBounds_toArray, List.set_cons_zero, List.set_cons_succ])
              have HBD := hd (HB5.out.go (Ext.refl _).drew)
              obtain ⟨-, -, HSD⟩ := ownI_store HBD.out.owc (by have := HLC.out; simp; omega) haL
              have hxx : (IntKind.i64.wrap (ca + cb)).tmod 2 = mrgS g.cs a b := by rw [HMS.out, show IntKind.i64.wrap (ca + cb) = ca + cb from IntWalk.i64_in _ (by omega), Int.tmod_eq_emod_of_nonneg (by omega)]
              have hset : W5.drew.grownBy (W5.drew.setCell ⟨gb, a, none⟩ (.int .i64 (mrgS g.cs a b))) (some gb) := grown_set (grown_refl _ _) _ _
              refine name_world (fun W6 => BxC W0 W6 bx W.heap.size (g.n - 1) (.slice none 0 0) (.slice (some ⟨gb, 0, none⟩) L5 c5) [] (mrgC g.cs a b) ∧ W6.heap[pa]? = some (.cells #[.int .i64 (a : Int)] 3 (0, 0)) ∧ W6.heap[pb]? = some (.cells #[.int .i64 (b : Int)] 3 (0, 0))) ?_ ?_
              · rw [hxx]
                exact ⟨HBD.out.setC (HSD.out _), (hset.block pa (blk_lt HAX.out) (fun e => by injection e with e; omega)).trans HAX.out, (hset.block pb (blk_lt HBX.out) (fun e => by injection e with e; omega)).trans HBX.out⟩
              rintro W6 ⟨hB6, hA6, hBb6⟩
              have HB6 := hd hB6
              have HA6 := hd hA6
              have HC6 := hd hBb6
              clear hB6 hA6 hBb6 c0 c1 c2 va5 vb5 k52 k0 k1 k2
              try clear hset
              try clear hxx
              try clear HSD
              try clear HST
              try clear HBD
              try clear u0
              try clear HMS
              try clear xa
              try clear xb
              try clear xa0
              try clear xa1
              try clear xb0
              try clear xb1
              try clear HAX
              try clear HBX
              try clear HLC
              try clear HU5
              try clear HX5
              try clear HWO
              try clear KP
              try clear HA
              try clear HBb
              try clear vb
              try clear HCS
              try clear HG01
              try clear HJ
              try clear HG
              try clear HW5
              try clear HB5
              try clear HQ
              try clear HQ0
              try clear sc
              try clear sf
              try clear hHeld
              try clear ea1
              try clear ea2
              try clear ea3
              try clear eb1
              try clear eb2
              try clear haL
              obtain ⟨k0, k1, k2⟩ := BX.out _ HB6.out.ext
              try generalize (IntKind.i64.wrap (ca + cb)).tmod 2 = zd
              try generalize IntKind.i64.wrap (ca + cb) = zc
              try generalize IntKind.i64.wrap (g.n - 1) = zn
              go_wp2
              go_loopw [64] (fun x wr => ∃ (i : Nat) (ve : Value), i ≤ g.es.length ∧ x = .int .i64 (i : Int) ∧ BxC W0 wr bx W.heap.size (g.n - 1) ve (.slice (some ⟨gb, 0, none⟩) L5 c5) (mrgE a b (g.es.take i)) (mrgC g.cs a b) ∧ wr.heap[pa]? = some (.cells #[.int .i64 (a : Int)] 3 (0, 0)) ∧ wr.heap[pb]? = some (.cells #[.int .i64 (b : Int)] 3 (0, 0))) (fun x _ => g.es.length - (intOf x).toNat)
              case atStart => exact ⟨0, _, by omega, rfl, by simpa [mrgE] using HB6.out, HA6.out, HC6.out⟩
              case round =>
                clear HB6 HA6 HC6 k0 k1 k2
                obtain ⟨i, ve, hi, rfl, hB, hA, hBb⟩ := hrel
                have HB := hd hB
                have HA9 := hd hA
                have HB9 := hd hBb
                obtain ⟨k0, k1, k2⟩ := BX.out _ hB.ext
                clear hB hA hBb
                by_cases hlt : i < g.es.length
                · obtain ⟨a9, h9, hc0, hc1⟩ := RdP.at_ ha hlt
                  cases h9
                  have HE1 := hd (mrgE_succ a b hlt)
                  have hml := Nat.le_trans (mrgE_len a b (g.es.take i)) (List.length_take_le _ _)
                  replace hc0 := (X0.out.trans HB.out.ext).cell hc0
                  replace hc1 := (X0.out.trans HB.out.ext).cell hc1
                  have HEI : Hid (g.es[i] ∈ g.es) := hd (List.getElem_mem hlt)
                  have HEB := hd (HES.out _ HEI.out)
                  generalize g.es[i] = e at *
                  obtain ⟨x, y⟩ := e
                  dsimp only at hc0 hc1
                  obtain ⟨hx0, hx9, hy9⟩ : 0 ≤ x ∧ x < y ∧ y < g.n := HEB.out
                  have HRN : Hid (∀ (w' : World) (z : Int), 0 ≤ z → z ≤ 8 → Ext wr w' → Calls Try.prog 33 #[.int .i64 z, .pointer (some ⟨pb, 0, none⟩), .pointer (some ⟨pa, 0, none⟩)] w' (Ret w' (.int .i64 (ren a b z)))) := hd fun w' z hz hz' hx => i_ren a b z pa pb w' (by have := hx.heap HA9.out; simp [World.cell?, this]) (by have := hx.heap HB9.out; simp [World.cell?, this]) (by omega)
                  have T0 : Hid ((wr.alloc (.cells #[.int .i64 x, .int .i64 y] 50)).heap[wr.heap.size]? = some (.cells #[.int .i64 x, .int .i64 y] 50 (0, 0))) := hd (blk_new _ rfl)
                  obtain ⟨t0, t1⟩ := blk2 T0.out
                  have hx8 : x ≤ 8 := by omega
                  have hy8 : y ≤ 8 := by omega
                  have hy0 : 0 ≤ y := by omega
                  go_wp2_with fail
                  go_big_quiet ((go_at_call 33; exact q_same (HRN.out _ _ (by assumption) (by assumption) ((Ext.new _ _).trans (ext_drewN _ _)))))
                  obtain ⟨W9, hW9⟩ : ∃ W9, (wr.alloc (.cells #[.int .i64 x, .int .i64 y] 50)).drewN nq = W9 := ⟨_, rfl⟩
                  have X9 : Hid (Ext wr W9) := hd (by rw [← hW9]; exact (Ext.new _ _).trans (ext_drewN _ _))
                  rw [hW9]
                  clear hW9 T0 t0 t1 k0 k1 k2 hc0 hc1
                  have HBW := hd (HB.out.go X9.out)
                  have HA8 := hd (X9.out.heap HA9.out)
                  have HB8 := hd (X9.out.heap HB9.out)
                  obtain ⟨c0, c1, c2⟩ := blk3 HBW.out.blk
                  obtain ⟨f0, f1, f2⟩ := blk3f HBW.out.blk
                  have hbl2 := blk_lt HBW.out.blk
                  have hlo9 := HBW.out.hig
                  have HP : Hid (ren a b x = ren a b x) := hd rfl
                  have HM1 : mrg1 a b (x, y) = if ren a b x = ren a b y then [] else [(min (ren a b x) (ren a b y), max (ren a b x) (ren a b y))] := rfl
                  by_cases hpq : ren a b x = ren a b y
                  · have HN : Hid (mrgE a b (g.es.take (i + 1)) = mrgE a b (g.es.take i)) := hd (by rw [HE1.out, HM1, if_pos hpq, List.append_nil])
                    clear HM1
                    have hpq' : (ren a b x != ren a b y) = false := by simp [hpq]
                    go_wp2
                    go_roundw
                    case rel => exact ⟨i + 1, ve, by omega, by go_num, by rw [HN.out]; exact HBW.out, HA8.out, HB8.out⟩
                    case measure => simp [intOf]; omega
                  · have HN : Hid (mrgE a b (g.es.take (i + 1)) = mrgE a b (g.es.take i) ++ [(min (ren a b x) (ren a b y), max (ren a b x) (ren a b y))]) := hd (by rw [HE1.out, HM1, if_neg hpq])
                    clear HM1
                    generalize ren a b x = p at *
                    generalize ren a b y = q at *
                    go_wp2_with (at_builtin; refine appPs W9 (m := 1) (fs := [(min p q, max p q)]) HBW.out.own rfl _ _ rfl (by rfl) (by rfl) rfl rfl rfl (by omega) hlo9 ?_; intro v' w1 ho1 hg1; obtain ⟨A7, L7, c7, rfl⟩ : ∃ A L c, v' = .slice A L c := (by obtain ⟨A, c, h, -⟩ := OwnP.form ho1; exact ⟨_, _, _, h⟩); obtain ⟨p1, p2, -⟩ := HBW.out.pushE (Ext.new _ _) hg1 ho1; have p3 := HBW.out.keepE (v' := .slice A7 L7 c7) (Ext.new _ _) hg1 HA8.out; have p4 := HBW.out.keepE (v' := .slice A7 L7 c7) (Ext.new _ _) hg1 HB8.out; obtain ⟨q0, q1, q2⟩ := blk3 p1; obtain ⟨q3, q4, q5⟩ := blk3f p1; have q6 := blk_lt p1)
                    go_roundw
                    case rel => exact ⟨i + 1, _, by omega, by go_num, by rw [HN.out]; exact p2, p3, p4⟩
                    case measure => simp [intOf]; omega
                · obtain rfl : i = g.es.length := by omega
                  rw [List.take_length] at HB
                  obtain ⟨A7, L7, c7, rfl⟩ : ∃ A L c, ve = .slice A L c := by
                    obtain ⟨A, c, h, -⟩ := OwnP.form HB.out.own
                    exact ⟨_, _, _, h⟩
                  obtain ⟨q, hq⟩ : ∃ q, goodC ⟨g.n - 1, mrgE a b g.es, mrgC g.cs a b⟩ = q := ⟨_, rfl⟩
                  have HGQ := hd hq
                  clear hq
                  obtain ⟨c0, c1, c2⟩ := blk3 HB.out.blk
                  go_wp2_with fail
                  refine (i_IsCharged ⟨g.n - 1, mrgE a b g.es, mrgC g.cs a b⟩ _ _ HB.out.rd).mono ?_
                  rw [HGQ.out]
                  rintro e w5 ⟨rfl, hx5⟩
                  have HF := hd (HB.out.go hx5)
                  clear c0 c1 c2 k0 k1 k2
                  obtain ⟨c0, c1, c2⟩ := blk3 HF.out.blk
                  obtain ⟨r0, r1, r2⟩ := blk3 (RX.out _ HF.out.ext)
                  obtain ⟨rf0, rf1, rf2⟩ := blk3f (RX.out _ HF.out.ext)
                  have hsz := HF.out.ext.size
                  have hlo5 := HF.out.low
                  cases q
                  · go_wp2
                    exact bodyPost_ret (v := .tuple #[.agg #[.int .i64 0, .slice none 0 0, .slice none 0 0], .bool false]) (by simp [results, Try.results10, go_sem, r0, r1, r2]) rfl ⟨_, by rw [HGB.out, HGQ.out], by unfold mrgV; rw [HGB.out, HGQ.out]; exact ownC_zero, ext_b3 (X0.out.trans HF.out.ext) (by omega)⟩
                  · go_wp2
                    exact bodyPost_ret (v := .tuple #[.agg #[.int .i64 (g.n - 1), .slice A7 L7 c7, .slice (some ⟨gb, 0, none⟩) L5 c5], .bool true]) (by simp [results, Try.results10, go_sem, r0, r1, r2]) rfl ⟨_, by rw [HGB.out, HGQ.out], by unfold mrgV; rw [HGB.out, HGQ.out, if_pos rfl, HGG.out]; exact ownC_b3 HF.out.own HF.out.owc (by omega) (by omega) (by simp), ext_b3 (X0.out.trans HF.out.ext) (by omega)⟩
        exact ordG_nil
      refine' ordG_cons (o := _) ?_ (fun K hK => ?_) ?_
      rotate_left 1
      · (simp only [List.getElem?_toArray, List.getElem?_cons_zero, List.getElem?_cons_succ]; rfl)
      ·
        go_simp
        refine hK.out _ _ (KP.out _ ((Ext.refl _).drew.alloc _)) ?_
        clear hK K
        (try simp only [List.setIfInBounds_toArray, List.set_cons_zero, List.set_cons_succ])
        refine ordG_all (rs := [6]) (by kernel_rfl) (by simp) (by decide) ?_
        refine' ordG_cons (o := _) ?_ (fun K hK => ?_) ?_
        rotate_left 1
        · (simp only [List.getElem?_toArray, List.getElem?_cons_zero, List.getElem?_cons_succ]; rfl)
        ·
          go_simp
          go_at_call 34
          refine (HWO.out _ ((Ext.refl _).drew.alloc _)).mono ?_
          rintro e w5 ⟨u, rfl, hu, hx5⟩
          obtain ⟨A5, L5, c5, rfl⟩ : ∃ A L c, u = .slice A L c := by
            obtain ⟨A, c, h, -⟩ := OwnI.form hu
            exact ⟨_, _, _, h⟩
          have HX5 : Hid (Ext W w5) := hd (Ext.trans ((Ext.refl _).drew.alloc _) hx5)
          have HU5 : Hid (OwnI w5 W.heap.size 3 (.slice A5 L5 c5) (g.cs.take b ++ g.cs.drop (b + 1))) := hd (own_rebase hu (by simp))
          have HS5 : (w5).cell? ⟨w.heap.size, 0, none⟩ = some (.int .i64 g.n) ∧ (w5).cell? ⟨w.heap.size, 2, none⟩ = some (.slice (some a1') g.cs.length c') ∧ (w5).cell? ⟨pb, 0, none⟩ = some (.int .i64 (b : Int)) := KP.out _ HX5.out
          go_simp
          refine hK.out _ _ HS5 ?_
          clear hK K
          (try simp only [List.setIfInBounds_toArray, List.set_cons_zero, List.set_cons_succ])
          refine' ordG_take 7 (oi := _) (v := _) ?_ ?_ ?_ (Or.inl ⟨?_, ?_⟩) ?_ ?_
          rotate_left 2
          · (simp only [List.getElem?_toArray, List.getElem?_cons_zero, List.getElem?_cons_succ]; rfl)
          · kernel_rfl
          · exact fun _ _ _ h => h
          · rfl
          · (intro w hSw; (try dsimp only at hSw); go_simp; (try with_reducible rfl))
          · exact HS5
          (try simp only [Act.put, List.setIfInBounds_toArray, List.set_cons_zero, List.set_cons_succ])
          have hz5 : w5.heap[W.heap.size]? = some zeroC := hx5.heap (blk_new _ rfl)
          obtain ⟨z0, z1, z2⟩ := blk3 hz5
          obtain ⟨zf0, zf1, zf2⟩ := blk3f hz5
          have zs := hx5.size
          refine ordG_last (by kernel_rfl) (by kernel_rfl) ?_
          refine' wpOp_step (o := _) ?_ (fun K hK => ?_)
          rotate_left 1
          · (simp only [List.getElem?_toArray, List.getElem?_cons_zero, List.getElem?_cons_succ]; rfl)
          ·
            go_simp
            refine hK _ _ ?_
            clear hK K
            (try simp only [Act.put, List.setIfInBounds_toArray, List.set_cons_zero, List.set_cons_succ])
            refine name_world (fun W5 => BxC W0 W5 W.heap.size W.heap.size (g.n - 1) (.slice none 0 0) (.slice A5 L5 c5) [] (g.cs.take b ++ g.cs.drop (b + 1)) ∧ Ext W W5) ?_ ?_
            · exact bx_set (by omega) XW.out HX5.out hz5 HU5.out
            rintro W5 ⟨hB5, hW5⟩
            generalize hbxe : W.heap.size = bx at *
            have HB5 := hd hB5
            have HW5 := hd hW5
            clear hB5 hW5
            have HLC : Hid (L5 = g.cs.length - 1) := hd (by have := HU5.out.1; simp [ints] at this; obtain ⟨A9, c9, h9, -⟩ := OwnI.form HU5.out; injection h9 with _ h9 _; rw [h9]; simp; omega)
            obtain ⟨h9, -, -⟩ | ⟨gb, cp, h9, hgb, hgl, hnc, hcm⟩ := own_form HB5.out.owc
            · exfalso; injection h9 with _ h9 _; have := HLC.out; omega
            injection h9 with h9 h9' h9''
            subst h9
            subst h9''
            clear h9'
            obtain ⟨c0, c1, c2⟩ := blk3 HB5.out.blk
            have HAX := hd (HW5.out.heap HA.out)
            have HBX := hd (HW5.out.heap HBb.out)
            have va5 : W5.cell? ⟨pa, 0, none⟩ = some (.int .i64 (a : Int)) := by simp [World.cell?, HAX.out]
            have vb5 : W5.cell? ⟨pb, 0, none⟩ = some (.int .i64 (b : Int)) := by simp [World.cell?, HBX.out]
            obtain ⟨-, -, k52⟩ := BX.out _ HB5.out.ext
            have HMS : Hid (mrgS g.cs a b = (g.cs[a] + g.cs[b]) % 2) := hd (by unfold mrgS; rw [List.getElem?_eq_getElem ha2, List.getElem?_eq_getElem hbl]; rfl)
            obtain ⟨xa, xa0, xa1⟩ := HCS.out W5 a ha2 (X0.out.trans HB5.out.ext)
            obtain ⟨xb, xb0, xb1⟩ := HCS.out W5 b hbl (X0.out.trans HB5.out.ext)
            generalize g.cs[a] = ca at *
            generalize g.cs[b] = cb at *
            have haL : a < L5 := by have := HLC.out; omega
            have ea1 : (0 : Int) ≤ (a : Int) := by omega
            have ea2 : (a : Int) < (L5 : Int) := by omega
            have ea3 : (a : Int) < (g.cs.length : Int) := by omega
            have eb1 : (0 : Int) ≤ (b : Int) := by omega
            have eb2 : (b : Int) < (g.cs.length : Int) := by omega
            obtain ⟨⟨u0, sc⟩, sf, HST⟩ := ownI_store HB5.out.owc (by have := HLC.out; simp; omega) haL
            go_wp2_with fail
            refine wp_region_sink (fun w' => (w').cell? ⟨bx, 2, none⟩ = some (.slice (some ⟨gb, 0, none⟩) L5 c5) ∧ (w').cell? ⟨pa, 0, none⟩ = some (.int .i64 (a : Int)) ∧ (w').cell? ⟨pb, 0, none⟩ = some (.int .i64 (b : Int)) ∧ (w').cell? ⟨w.heap.size, 2, none⟩ = some (.slice (some a1') g.cs.length c') ∧ (w').cell? (a1'.add a) = some (.int .i64 ca) ∧ (w').cell? (a1'.add b) = some (.int .i64 cb)) 16 17 #[false, false, false, false, false, false, false, false, false, false, false, false, false, false, false, false, false] (by kernel_rfl) (by kernel_rfl) (by kernel_rfl) ?_
            have HS : (W5.drew).cell? ⟨bx, 2, none⟩ = some (.slice (some ⟨gb, 0, none⟩) L5 c5) ∧ (W5.drew).cell? ⟨pa, 0, none⟩ = some (.int .i64 (a : Int)) ∧ (W5.drew).cell? ⟨pb, 0, none⟩ = some (.int .i64 (b : Int)) ∧ (W5.drew).cell? ⟨w.heap.size, 2, none⟩ = some (.slice (some a1') g.cs.length c') ∧ (W5.drew).cell? (a1'.add a) = some (.int .i64 ca) ∧ (W5.drew).cell? (a1'.add b) = some (.int .i64 cb) := ⟨c2, va5, vb5, k52, xa, xb⟩
            refine' ordG_take 0 (oi := _) (v := _) ?_ ?_ ?_ (Or.inl ⟨?_, ?_⟩) ?_ ?_
            rotate_left 2
            · (simp only [List.getElem?_toArray, List.getElem?_cons_zero]; rfl)
            · kernel_rfl
            · exact fun _ _ _ h => h
            · rfl
            · (intro w hSw; (try dsimp only at hSw); go_simp; (try with_reducible rfl))
            · exact HS
            (try simp only [Act.put, List.setIfInBounds_toArray, List.set_cons_zero, List.set_cons_succ])
            refine' ordG_take 1 (oi := _) (v := _) ?_ ?_ ?_ (Or.inl ⟨?_, ?_⟩) ?_ ?_
            rotate_left 2
            · (simp only [List.getElem?_toArray, List.getElem?_cons_zero, List.getElem?_cons_succ]; rfl)
            · kernel_rfl
            · exact fun _ _ _ h => h
            · rfl
            · (intro w hSw; (try dsimp only at hSw); go_simp; (try with_reducible rfl))
            · exact HS
            (try simp only [Act.put, List.setIfInBounds_toArray, List.set_cons_zero, List.set_cons_succ])
            refine' ordG_take 2 (oi := _) (v := _) ?_ ?_ ?_ (Or.inl ⟨?_, ?_⟩) ?_ ?_
            rotate_left 2
            · (simp only [List.getElem?_toArray, List.getElem?_cons_zero, List.getElem?_cons_succ]; rfl)
            · kernel_rfl
            · exact fun _ _ _ h => h
            · rfl
            · (intro w hSw; (try dsimp only at hSw); go_simp; (try with_reducible rfl))
            · exact HS
            (try simp only [Act.put, List.setIfInBounds_toArray, List.set_cons_zero, List.set_cons_succ])
            refine' ordG_take 3 (oi := _) (v := _) ?_ ?_ ?_ (Or.inl ⟨?_, ?_⟩) ?_ ?_
            rotate_left 2
            · (simp only [List.getElem?_toArray, List.getElem?_cons_zero, List.getElem?_cons_succ]; rfl)
            · kernel_rfl
            · exact fun _ _ _ h => h
            · rfl
            · (intro w hSw; (try dsimp only at hSw); go_simp; (try with_reducible rfl))
            · exact HS
            (try simp only [Act.put, List.setIfInBounds_toArray, List.set_cons_zero, List.set_cons_succ])
            refine' ordG_take 4 (oi := _) (v := _) ?_ ?_ ?_ (Or.inl ⟨?_, ?_⟩) ?_ ?_
            rotate_left 2
            · (simp only [List.getElem?_toArray, List.getElem?_cons_zero, List.getElem?_cons_succ]; rfl)
            · kernel_rfl
            · exact fun _ _ _ h => h
            · rfl
            · (intro w hSw; (try dsimp only at hSw); go_simp; (try with_reducible rfl))
            · exact HS
            (try simp only [Act.put, List.setIfInBounds_toArray, List.set_cons_zero, List.set_cons_succ])
            refine' ordG_take 5 (oi := _) (v := _) ?_ ?_ ?_ (Or.inl ⟨?_, ?_⟩) ?_ ?_
            rotate_left 2
            · (simp only [List.getElem?_toArray, List.getElem?_cons_zero, List.getElem?_cons_succ]; rfl)
            · kernel_rfl
            · exact fun _ _ _ h => h
            · rfl
            · (intro w hSw; (try dsimp only at hSw); go_simp; (try with_reducible rfl))
            · exact HS
            (try simp only [Act.put, List.setIfInBounds_toArray, List.set_cons_zero, List.set_cons_succ])
            refine' ordG_take 6 (oi := _) (v := _) ?_ ?_ ?_ (Or.inl ⟨?_, ?_⟩) ?_ ?_
            rotate_left 2
            · (simp only [List.getElem?_toArray, List.getElem?_cons_zero, List.getElem?_cons_succ]; rfl)
            · kernel_rfl
            · exact fun _ _ _ h => h
            · rfl
            · (intro w hSw; (try dsimp only at hSw); go_simp; (try with_reducible rfl))
            · exact HS
            (try simp only [Act.put, List.setIfInBounds_toArray, List.set_cons_zero, List.set_cons_succ])
            refine' ordG_take 7 (oi := _) (v := _) ?_ ?_ ?_ (Or.inl ⟨?_, ?_⟩) ?_ ?_
            rotate_left 2
            · (simp only [List.getElem?_toArray, List.getElem?_cons_zero, List.getElem?_cons_succ]; rfl)
            · kernel_rfl
            · exact fun _ _ _ h => h
            · rfl
            · (intro w hSw; (try dsimp only at hSw); go_simp; (try with_reducible rfl))
            · exact HS
            (try simp only [Act.put, List.setIfInBounds_toArray, List.set_cons_zero, List.set_cons_succ])
            refine' ordG_take 8 (oi := _) (v := _) ?_ ?_ ?_ (Or.inl ⟨?_, ?_⟩) ?_ ?_
            rotate_left 2
            · (simp only [List.getElem?_toArray, List.getElem?_cons_zero, List.getElem?_cons_succ]; rfl)
            · kernel_rfl
            · exact fun _ _ _ h => h
            · rfl
            · (intro w hSw; (try dsimp only at hSw); go_simp; (try with_reducible rfl))
            · exact HS
            (try simp only [Act.put, List.setIfInBounds_toArray, List.set_cons_zero, List.set_cons_succ])
            refine' ordG_take 9 (oi := _) (v := _) ?_ ?_ ?_ (Or.inl ⟨?_, ?_⟩) ?_ ?_
            rotate_left 2
            · (simp only [List.getElem?_toArray, List.getElem?_cons_zero, List.getElem?_cons_succ]; rfl)
            · kernel_rfl
            · exact fun _ _ _ h => h
            · rfl
            · (intro w hSw; (try dsimp only at hSw); go_simp; (try with_reducible rfl))
            · exact HS
            (try simp only [Act.put, List.setIfInBounds_toArray, List.set_cons_zero, List.set_cons_succ])
            refine' ordG_take 10 (oi := _) (v := _) ?_ ?_ ?_ (Or.inl ⟨?_, ?_⟩) ?_ ?_
            rotate_left 2
            · (simp only [List.getElem?_toArray, List.getElem?_cons_zero, List.getElem?_cons_succ]; rfl)
            · kernel_rfl
            · exact fun _ _ _ h => h
            · rfl
            · (intro w hSw; (try dsimp only at hSw); go_simp; (try with_reducible rfl))
            · exact HS
            (try simp only [Act.put, List.setIfInBounds_toArray, List.set_cons_zero, List.set_cons_succ])
            refine' ordG_take 11 (oi := _) (v := _) ?_ ?_ ?_ (Or.inl ⟨?_, ?_⟩) ?_ ?_
            rotate_left 2
            · (simp only [List.getElem?_toArray, List.getElem?_cons_zero, List.getElem?_cons_succ]; rfl)
            · kernel_rfl
            · exact fun _ _ _ h => h
            · rfl
            · (intro w hSw; (try dsimp only at hSw); go_simp; (try with_reducible rfl))
            · exact HS
            (try simp only [Act.put, List.setIfInBounds_toArray, List.set_cons_zero, List.set_cons_succ])
            refine' ordG_take 12 (oi := _) (v := _) ?_ ?_ ?_ (Or.inl ⟨?_, ?_⟩) ?_ ?_
            rotate_left 2
            · (simp only [List.getElem?_toArray, List.getElem?_cons_zero, List.getElem?_cons_succ]; rfl)
            · kernel_rfl
            · exact fun _ _ _ h => h
            · rfl
            · (intro w hSw; (try dsimp only at hSw); go_simp; (try with_reducible rfl))
            · exact HS
            (try simp only [Act.put, List.setIfInBounds_toArray, List.set_cons_zero, List.set_cons_succ])
            refine' ordG_take 13 (oi := _) (v := _) ?_ ?_ ?_ (Or.inl ⟨?_, ?_⟩) ?_ ?_
            rotate_left 2
            · (simp only [List.getElem?_toArray, List.getElem?_cons_zero, List.getElem?_cons_succ]; rfl)
            · kernel_rfl
            · exact fun _ _ _ h => h
            · rfl
            · (intro w hSw; (try dsimp only at hSw); go_simp; (try with_reducible rfl))
            · exact HS
            (try simp only [Act.put, List.setIfInBounds_toArray, List.set_cons_zero, List.set_cons_succ])
            refine' ordG_take 14 (oi := _) (v := _) ?_ ?_ ?_ (Or.inl ⟨?_, ?_⟩) ?_ ?_
            rotate_left 2
            · (simp only [List.getElem?_toArray, List.getElem?_cons_zero, List.getElem?_cons_succ]; rfl)
            · kernel_rfl
            · exact fun _ _ _ h => h
            · rfl
            · (intro w hSw; (try dsimp only at hSw); go_simp; (try with_reducible rfl))
            · exact HS
            (try simp only [Act.put, List.setIfInBounds_toArray, List.set_cons_zero, List.set_cons_succ])
            refine' ordG_take 15 (oi := _) (v := _) ?_ ?_ ?_ (Or.inl ⟨?_, ?_⟩) ?_ ?_
            rotate_left 2
            · (simp only [List.getElem?_toArray, List.getElem?_cons_zero, List.getElem?_cons_succ]; rfl)
            · kernel_rfl
            · exact fun _ _ _ h => h
            · rfl
            · (intro w hSw; (try dsimp only at hSw); go_simp; (try with_reducible rfl))
            · exact HS
            (try simp only [Act.put, List.setIfInBounds_toArray, List.set_cons_zero, List.set_cons_succ])
            refine ordG_last (by kernel_rfl) (by kernel_rfl) ?_
            refine' wpOp_step (o := _) ?_ (fun K hK => ?_)
            rotate_left 1
            · (simp only [List.getElem?_toArray, List.getElem?_cons_zero, List.getElem?_cons_succ]; rfl)
            ·
              go_simp
              refine hK _ _ ?_
              clear hK K
              (try simp only [Act.put, List.setIfInBounds_toArray, List.set_cons_zero, List.set_cons_succ])
              have HBD := hd (HB5.out.go (Ext.refl _).drew)
              obtain ⟨-, -, HSD⟩ := ownI_store HBD.out.owc (by have := HLC.out; simp; omega) haL
              have hxx : (IntKind.i64.wrap (ca + cb)).tmod 2 = mrgS g.cs a b := by rw [HMS.out, show IntKind.i64.wrap (ca + cb) = ca + cb from IntWalk.i64_in _ (by omega), Int.tmod_eq_emod_of_nonneg (by omega)]
              have hset : W5.drew.grownBy (W5.drew.setCell ⟨gb, a, none⟩ (.int .i64 (mrgS g.cs a b))) (some gb) := grown_set (grown_refl _ _) _ _
              refine name_world (fun W6 => BxC W0 W6 bx bx (g.n - 1) (.slice none 0 0) (.slice (some ⟨gb, 0, none⟩) L5 c5) [] (mrgC g.cs a b) ∧ W6.heap[pa]? = some (.cells #[.int .i64 (a : Int)] 3 (0, 0)) ∧ W6.heap[pb]? = some (.cells #[.int .i64 (b : Int)] 3 (0, 0))) ?_ ?_
              · rw [hxx]
                exact ⟨HBD.out.setC (HSD.out _), (hset.block pa (blk_lt HAX.out) (fun e => by injection e with e; omega)).trans HAX.out, (hset.block pb (blk_lt HBX.out) (fun e => by injection e with e; omega)).trans HBX.out⟩
              rintro W6 ⟨hB6, hA6, hBb6⟩
              have HB6 := hd hB6
              have HA6 := hd hA6
              have HC6 := hd hBb6
              clear hB6 hA6 hBb6 c0 c1 c2 va5 vb5 k52 k0 k1 k2
              try clear hset
              try clear hxx
              try clear HSD
              try clear HST
              try clear HBD
              try clear u0
              try clear HMS
              try clear xa
              try clear xb
              try clear xa0
              try clear xa1
              try clear xb0
              try clear xb1
              try clear HAX
              try clear HBX
              try clear HLC
              try clear HU5
              try clear HX5
              try clear HWO
              try clear KP
              try clear HA
              try clear HBb
              try clear vb
              try clear HCS
              try clear HG01
              try clear HJ
              try clear HG
              try clear HW5
              try clear HB5
              try clear HQ
              try clear HQ0
              try clear sc
              try clear sf
              try clear hHeld
              try clear ea1
              try clear ea2
              try clear ea3
              try clear eb1
              try clear eb2
              try clear haL
              obtain ⟨k0, k1, k2⟩ := BX.out _ HB6.out.ext
              try generalize (IntKind.i64.wrap (ca + cb)).tmod 2 = zd
              try generalize IntKind.i64.wrap (ca + cb) = zc
              try generalize IntKind.i64.wrap (g.n - 1) = zn
              go_wp2
              go_loopw [64] (fun x wr => ∃ (i : Nat) (ve : Value), i ≤ g.es.length ∧ x = .int .i64 (i : Int) ∧ BxC W0 wr bx bx (g.n - 1) ve (.slice (some ⟨gb, 0, none⟩) L5 c5) (mrgE a b (g.es.take i)) (mrgC g.cs a b) ∧ wr.heap[pa]? = some (.cells #[.int .i64 (a : Int)] 3 (0, 0)) ∧ wr.heap[pb]? = some (.cells #[.int .i64 (b : Int)] 3 (0, 0))) (fun x _ => g.es.length - (intOf x).toNat)
              case atStart => exact ⟨0, _, by omega, rfl, by simpa [mrgE] using HB6.out, HA6.out, HC6.out⟩
              case round =>
                clear HB6 HA6 HC6 k0 k1 k2
                obtain ⟨i, ve, hi, rfl, hB, hA, hBb⟩ := hrel
                have HB := hd hB
                have HA9 := hd hA
                have HB9 := hd hBb
                obtain ⟨k0, k1, k2⟩ := BX.out _ hB.ext
                clear hB hA hBb
                by_cases hlt : i < g.es.length
                · obtain ⟨a9, h9, hc0, hc1⟩ := RdP.at_ ha hlt
                  cases h9
                  have HE1 := hd (mrgE_succ a b hlt)
                  have hml := Nat.le_trans (mrgE_len a b (g.es.take i)) (List.length_take_le _ _)
                  replace hc0 := (X0.out.trans HB.out.ext).cell hc0
                  replace hc1 := (X0.out.trans HB.out.ext).cell hc1
                  have HEI : Hid (g.es[i] ∈ g.es) := hd (List.getElem_mem hlt)
                  have HEB := hd (HES.out _ HEI.out)
                  generalize g.es[i] = e at *
                  obtain ⟨x, y⟩ := e
                  dsimp only at hc0 hc1
                  obtain ⟨hx0, hx9, hy9⟩ : 0 ≤ x ∧ x < y ∧ y < g.n := HEB.out
                  have HRN : Hid (∀ (w' : World) (z : Int), 0 ≤ z → z ≤ 8 → Ext wr w' → Calls Try.prog 33 #[.int .i64 z, .pointer (some ⟨pb, 0, none⟩), .pointer (some ⟨pa, 0, none⟩)] w' (Ret w' (.int .i64 (ren a b z)))) := hd fun w' z hz hz' hx => i_ren a b z pa pb w' (by have := hx.heap HA9.out; simp [World.cell?, this]) (by have := hx.heap HB9.out; simp [World.cell?, this]) (by omega)
                  have T0 : Hid ((wr.alloc (.cells #[.int .i64 x, .int .i64 y] 50)).heap[wr.heap.size]? = some (.cells #[.int .i64 x, .int .i64 y] 50 (0, 0))) := hd (blk_new _ rfl)
                  obtain ⟨t0, t1⟩ := blk2 T0.out
                  have hx8 : x ≤ 8 := by omega
                  have hy8 : y ≤ 8 := by omega
                  have hy0 : 0 ≤ y := by omega
                  go_wp2_with fail
                  go_big_quiet ((go_at_call 33; exact q_same (HRN.out _ _ (by assumption) (by assumption) ((Ext.new _ _).trans (ext_drewN _ _)))))
                  obtain ⟨W9, hW9⟩ : ∃ W9, (wr.alloc (.cells #[.int .i64 x, .int .i64 y] 50)).drewN nq = W9 := ⟨_, rfl⟩
                  have X9 : Hid (Ext wr W9) := hd (by rw [← hW9]; exact (Ext.new _ _).trans (ext_drewN _ _))
                  rw [hW9]
                  clear hW9 T0 t0 t1 k0 k1 k2 hc0 hc1
                  have HBW := hd (HB.out.go X9.out)
                  have HA8 := hd (X9.out.heap HA9.out)
                  have HB8 := hd (X9.out.heap HB9.out)
                  obtain ⟨c0, c1, c2⟩ := blk3 HBW.out.blk
                  obtain ⟨f0, f1, f2⟩ := blk3f HBW.out.blk
                  have hbl2 := blk_lt HBW.out.blk
                  have hlo9 := HBW.out.hig
                  have HP : Hid (ren a b x = ren a b x) := hd rfl
                  have HM1 : mrg1 a b (x, y) = if ren a b x = ren a b y then [] else [(min (ren a b x) (ren a b y), max (ren a b x) (ren a b y))] := rfl
                  by_cases hpq : ren a b x = ren a b y
                  · have HN : Hid (mrgE a b (g.es.take (i + 1)) = mrgE a b (g.es.take i)) := hd (by rw [HE1.out, HM1, if_pos hpq, List.append_nil])
                    clear HM1
                    have hpq' : (ren a b x != ren a b y) = false := by simp [hpq]
                    go_wp2
                    go_roundw
                    case rel => exact ⟨i + 1, ve, by omega, by go_num, by rw [HN.out]; exact HBW.out, HA8.out, HB8.out⟩
                    case measure => simp [intOf]; omega
                  · have HN : Hid (mrgE a b (g.es.take (i + 1)) = mrgE a b (g.es.take i) ++ [(min (ren a b x) (ren a b y), max (ren a b x) (ren a b y))]) := hd (by rw [HE1.out, HM1, if_neg hpq])
                    clear HM1
                    generalize ren a b x = p at *
                    generalize ren a b y = q at *
                    go_wp2_with (at_builtin; refine appPs W9 (m := 1) (fs := [(min p q, max p q)]) HBW.out.own rfl _ _ rfl (by rfl) (by rfl) rfl rfl rfl (by omega) hlo9 ?_; intro v' w1 ho1 hg1; obtain ⟨A7, L7, c7, rfl⟩ : ∃ A L c, v' = .slice A L c := (by obtain ⟨A, c, h, -⟩ := OwnP.form ho1; exact ⟨_, _, _, h⟩); obtain ⟨p1, p2, -⟩ := HBW.out.pushE (Ext.new _ _) hg1 ho1; have p3 := HBW.out.keepE (v' := .slice A7 L7 c7) (Ext.new _ _) hg1 HA8.out; have p4 := HBW.out.keepE (v' := .slice A7 L7 c7) (Ext.new _ _) hg1 HB8.out; obtain ⟨q0, q1, q2⟩ := blk3 p1; obtain ⟨q3, q4, q5⟩ := blk3f p1; have q6 := blk_lt p1)
                    go_roundw
                    case rel => exact ⟨i + 1, _, by omega, by go_num, by rw [HN.out]; exact p2, p3, p4⟩
                    case measure => simp [intOf]; omega
                · obtain rfl : i = g.es.length := by omega
                  rw [List.take_length] at HB
                  obtain ⟨A7, L7, c7, rfl⟩ : ∃ A L c, ve = .slice A L c := by
                    obtain ⟨A, c, h, -⟩ := OwnP.form HB.out.own
                    exact ⟨_, _, _, h⟩
                  obtain ⟨q, hq⟩ : ∃ q, goodC ⟨g.n - 1, mrgE a b g.es, mrgC g.cs a b⟩ = q := ⟨_, rfl⟩
                  have HGQ := hd hq
                  clear hq
                  obtain ⟨c0, c1, c2⟩ := blk3 HB.out.blk
                  go_wp2_with fail
                  refine (i_IsCharged ⟨g.n - 1, mrgE a b g.es, mrgC g.cs a b⟩ _ _ HB.out.rd).mono ?_
                  rw [HGQ.out]
                  rintro e w5 ⟨rfl, hx5⟩
                  have HF := hd (HB.out.go hx5)
                  clear c0 c1 c2 k0 k1 k2
                  obtain ⟨c0, c1, c2⟩ := blk3 HF.out.blk
                  obtain ⟨r0, r1, r2⟩ := blk3 (RX.out _ HF.out.ext)
                  obtain ⟨rf0, rf1, rf2⟩ := blk3f (RX.out _ HF.out.ext)
                  have hsz := HF.out.ext.size
                  have hlo5 := HF.out.low
                  cases q
                  · go_wp2
                    exact bodyPost_ret (v := .tuple #[.agg #[.int .i64 0, .slice none 0 0, .slice none 0 0], .bool false]) (by simp [results, Try.results10, go_sem, r0, r1, r2]) rfl ⟨_, by rw [HGB.out, HGQ.out], by unfold mrgV; rw [HGB.out, HGQ.out]; exact ownC_zero, ext_b3 (X0.out.trans HF.out.ext) (by omega)⟩
                  · go_wp2
                    exact bodyPost_ret (v := .tuple #[.agg #[.int .i64 (g.n - 1), .slice A7 L7 c7, .slice (some ⟨gb, 0, none⟩) L5 c5], .bool true]) (by simp [results, Try.results10, go_sem, r0, r1, r2]) rfl ⟨_, by rw [HGB.out, HGQ.out], by unfold mrgV; rw [HGB.out, HGQ.out, if_pos rfl, HGG.out]; exact ownC_b3 HF.out.own HF.out.owc (by omega) (by omega) (by simp), ext_b3 (X0.out.trans HF.out.ext) (by omega)⟩
        exact ordG_nil
      exact ordG_nil
end Go.Proofs.Ytljhcofehhpinaa
