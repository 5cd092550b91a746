/-
  MergeVertices of the reference's side. Condition: sizes up to 2^20.
-/
import Derived.Test.YtljhcofehhpinaaMrgB
import Derived.Test.YtljhcofehhpinaaSink
namespace Go.Proofs.Ytljhcofehhpinaa
open Go.RowKit Go.Shelf
abbrev zeroC : Obj := .cells #[.int .i64 0, .slice none 0 0, .slice none 0 0] 27
theorem ownC_b3 {W : World} {lo lo0 hi rb : Nat} {ve vc u0 u1 u2 : Value} {n : Int} {es : List (Int × Int)} {cs : List Int} (h1 : OwnP W lo 50 ve es) (h2 : OwnI W lo 3 vc cs) (hlo : lo0 ≤ lo) (hrb : rb < lo) (hhi : W.heap.size ≤ hi) :
    OwnC (((W.setCell ⟨rb, 0, none⟩ u0).setCell ⟨rb, 1, none⟩ u1).setCell ⟨rb, 2, none⟩ u2) lo0 hi (.agg #[.int .i64 n, ve, vc]) ⟨n, es, cs⟩ :=
  ⟨_, _, rfl, own_rebase (own_touch h1 (touch_b3 _ _ _ _ _) fun b hb => by have := (own_blocks h1 b hb).1; omega) hlo, own_rebase (own_touch h2 (touch_b3 _ _ _ _ _) fun b hb => by have := (own_blocks h2 b hb).1; omega) hlo, fun b hb => Nat.lt_of_lt_of_le (own_blocks h1 b hb).2 hhi, fun b hb => Nat.lt_of_lt_of_le (own_blocks h2 b hb).2 hhi⟩
theorem mrg_no {g : Chg} {k : Int} (h : edgeB g k = false) : mrgB g k = false ∧ mrgV g k = ⟨0, [], []⟩ := by
  have h1 : mrgB g k = false := by unfold mrgB; rw [h]; rfl
  exact ⟨h1, by unfold mrgV; rw [h1]; rfl⟩
set_option maxRecDepth 100000 in
set_option maxHeartbeats 6400000 in
theorem s_MergeVertices (g : Chg) (gv : Value) (k : Int) (w : World) (h : RdC w gv g) (_ : Bd_Charged g) (_ : I64_Charged g) (_ : I64 k) :
    Calls Try.prog 8 #[gv, .int .i64 k] w (RetC2 w (mrgV g k) (mrgB g k)) := by
  have HGG := hd h
  obtain ⟨ve, vc, rfl, hE, hC⟩ := h
  obtain ⟨A, c, rfl, h1, h2, ha⟩ := hE.form
  obtain ⟨A', c', rfl, h3, h4, ha'⟩ := hC.form
  have HG := HGG
  clear hE hC HGG
  have X0 : Hid (Ext w ((w.alloc (.cells #[.int .i64 g.n, .slice A g.es.length c, .slice A' g.cs.length c'] 27)).alloc zeroC)) := hd ((Ext.new _ _).alloc _)
  have BX : Hid (∀ w' : World, Ext ((w.alloc (.cells #[.int .i64 g.n, .slice A g.es.length c, .slice A' g.cs.length c'] 27)).alloc zeroC) w' → w'.cell? ⟨w.heap.size, 0, none⟩ = some (.int .i64 g.n) ∧ w'.cell? ⟨w.heap.size, 1, none⟩ = some (.slice A g.es.length c) ∧ w'.cell? ⟨w.heap.size, 2, none⟩ = some (.slice A' g.cs.length c')) := hd fun w' hx => blk3 (hx.heap (blk_old (blk_new (w := w) (.cells #[.int .i64 g.n, .slice A g.es.length c, .slice A' g.cs.length c'] 27) rfl)))
  have RX : Hid (∀ w' : World, Ext ((w.alloc (.cells #[.int .i64 g.n, .slice A g.es.length c, .slice A' g.cs.length c'] 27)).alloc zeroC) w' → w'.heap[w.heap.size + 1]? = some zeroC) := hd fun w' hx => hx.heap (blk_new _ (by simp))
  obtain ⟨q, hq⟩ : ∃ q, edgeB g k = q := ⟨_, rfl⟩
  have HQ := hd hq
  have HI := hd (fun e => edgeB_inv (hq.trans e) : q = true → _)
  clear hq
  obtain ⟨W0, hW0⟩ : ∃ W0, W0 = (w.alloc (.cells #[.int .i64 g.n, .slice A g.es.length c, .slice A' g.cs.length c'] 27)).alloc zeroC := ⟨_, rfl⟩
  have hz0 : w.heap.size + 2 = W0.heap.size := by rw [hW0]; simp
  have HW0 := hd hW0
  rw [← hW0] at X0 BX RX
  clear hW0
  cases q
  · have HN := hd (mrg_no HQ.out)
    go_enter Try.func8, Try.ntmps8
    go_wp2_with fail
    rw [← HW0.out]
    refine (s_l27Edge g _ k _ (HG.out.ext X0.out)).mono ?_
    rw [HQ.out]
    rintro e w1 ⟨rfl, hx1⟩
    obtain ⟨c0, c1, c2⟩ := blk3 (RX.out _ hx1)
    obtain ⟨f0, f1, f2⟩ := blk3f (RX.out _ hx1)
    have hs := hx1.size
    go_wp2
    exact bodyPost_ret (v := .tuple #[.agg #[.int .i64 0, .slice none 0 0, .slice none 0 0], .bool false]) (by simp [results, Try.results8, go_sem, c0, c1, c2]) rfl ⟨_, by rw [HN.out.1], by rw [HN.out.2]; exact ownC_zero, ext_b3 (X0.out.trans hx1) (by omega)⟩
  · obtain ⟨hgood, j, rfl, hj, a, b, hEA, hje, hab, hbl⟩ := HI.out rfl
    obtain ⟨hn1, hn8, hes, hcs, hee, hc01, -⟩ := goodC_inv hgood
    have HES := hd hee
    clear hee
    have HG01 := hd hc01
    clear hc01 hgood HI
    have HGG : Hid (mrgG g (j : Int) = ⟨g.n - 1, mrgE a b g.es, mrgC g.cs a b⟩) := hd (by unfold mrgG; rw [hEA]; simp)
    have HGB : Hid (mrgB g (j : Int) = goodC ⟨g.n - 1, mrgE a b g.es, mrgC g.cs a b⟩) := hd (by unfold mrgB; rw [HQ.out, HGG.out]; rfl)
    have HACC : Hid (accC g.cs a b g.cs.length = mrgC g.cs a b) := hd (accC_eq hab hbl)
    have hjj : g.es[j] = ((a : Int), (b : Int)) := by have := List.getElem?_eq_getElem hj; rw [hje] at this; exact (Option.some.inj this).symm
    obtain ⟨a1, rfl, hj0, hj1⟩ := RdP.at_ ha hj
    rw [hjj] at hj0 hj1
    dsimp only at hj0 hj1
    have HJ := hd (fun (w' : World) (hx : Ext w w') => And.intro (hx.cell hj0) (hx.cell hj1))
    clear hEA hje hjj hj0 hj1
    have ha2 : a < g.cs.length := by omega
    obtain ⟨a1', rfl, -⟩ := RdI.at_ ha' ha2
    have HCS : Hid (∀ (w' : World) (i : Nat) (hi : i < g.cs.length), Ext w w' → w'.cell? (a1'.add i) = some (.int .i64 g.cs[i]) ∧ 0 ≤ g.cs[i] ∧ g.cs[i] ≤ 1) := hd fun w' i hi hx => by
      obtain ⟨a9, h9, hc⟩ := RdI.at_ ha' hi
      cases h9
      exact ⟨hx.cell hc, HG01.out _ (List.getElem_mem hi)⟩
    have HNL := hd hcs
    clear hcs
    go_enter Try.func8, Try.ntmps8
    go_wp2_with fail
    rw [← HW0.out]
    refine (s_l27Edge g _ (j : Int) _ (HG.out.ext X0.out)).mono ?_
    rw [HQ.out]
    rintro e w1 ⟨rfl, hx1⟩
    have X1 := hd hx1
    have hs1 := hx1.size
    obtain ⟨k0, k1, k2⟩ := BX.out _ hx1
    obtain ⟨hj0, hj1⟩ := HJ.out _ (X0.out.trans hx1)
    clear hx1
    go_wp2_with fail
    go_quiet (fail)
    obtain ⟨w2, hw2⟩ : ∃ w2, w1.drewN nq = w2 := ⟨_, rfl⟩
    have X2 : Hid (Ext W0 w2) := hd (by rw [← hw2]; exact X1.out.trans (ext_drewN _ _))
    rw [hw2]
    have hs2 := X2.out.size
    have B0 : Hid (BxC W0 (((w2.alloc (.cells #[] 50)).alloc (.cells #[] 3)).alloc (.cells #[.int .i64 (g.n - 1), .slice (some ⟨w2.heap.size, 0, none⟩) 0 0, .slice (some ⟨w2.heap.size + 1, 0, none⟩) 0 0] 27)) (w2.heap.size + 1 + 1) w2.heap.size (g.n - 1) (.slice (some ⟨w2.heap.size, 0, none⟩) 0 0) (.slice (some ⟨w2.heap.size + 1, 0, none⟩) 0 0) [] []) :=
      hd ⟨blk_new _ (by simp), ((ownP_emp rfl (Nat.le_refl _)).ext ((Ext.new _ _).alloc _)), own_ext (ownI_emp (by simp) (by omega)) (Ext.new _ _), ((X2.out.alloc _).alloc _).alloc _, hs2, by simp; omega, by omega⟩
    clear hj0 hj1 k0 k1 k2 hw2 X1 hs1
    obtain ⟨k0, k1, k2⟩ := BX.out _ X2.out
    go_wp2
    generalize hbx : w2.heap.size + 1 + 1 = bx at *
    have hbx0 : w.heap.size + 2 ≤ bx := by omega
    clear hbx k0 k1 k2
    go_loopw [9] (fun x wr => ∃ (i : Nat) (ve : Value), i ≤ g.es.length ∧ x = .int .i64 (i : Int) ∧ BxC W0 wr bx w2.heap.size (g.n - 1) ve (.slice (some ⟨w2.heap.size + 1, 0, none⟩) 0 0) (mrgE a b (g.es.take i)) []) (fun x _ => g.es.length - (intOf x).toNat)
    case atStart => exact ⟨0, _, by omega, rfl, by simpa [mrgE] using B0.out⟩
    case round =>
      clear B0
      obtain ⟨i, ve, hi, rfl, hB⟩ := hrel
      have HB := hd hB
      obtain ⟨k0, k1, k2⟩ := BX.out _ hB.ext
      clear hB
      by_cases hlt : i < g.es.length
      · obtain ⟨a9, h9, hc0, hc1⟩ := RdP.at_ ha hlt
        cases h9
        have HE1 := hd (mrgE_succ a b hlt)
        have HCC := hd (fun (w' : World) (hx : Ext w w') => And.intro (hx.cell hc0) (hx.cell hc1))
        have hml := Nat.le_trans (mrgE_len a b (g.es.take i)) (List.length_take_le _ _)
        clear hc0 hc1
        have HEI : Hid (g.es[i] ∈ g.es) := hd (List.getElem_mem hlt)
        have HEB := hd (HES.out _ HEI.out)
        generalize g.es[i] = e at *
        obtain ⟨x, y⟩ := e
        dsimp only at HCC
        obtain ⟨hx0, hx9, hy9⟩ : 0 ≤ x ∧ x < y ∧ y < g.n := HEB.out
        obtain ⟨wo, rfl⟩ : ∃ wo : World, wo = wr := ⟨_, rfl⟩
        have T0 : Hid ((wo.alloc (.cells #[.int .i64 0, .int .i64 0] 50)).heap[wo.heap.size]? = some (.cells #[.int .i64 0, .int .i64 0] 50 (0, 0))) := hd (blk_new _ rfl)
        have TX : Hid (Ext wo (wo.alloc (.cells #[.int .i64 0, .int .i64 0] 50))) := hd (Ext.new _ _)
        go_wp2
        generalize htb : wo.heap.size = tb at *
        go_loopw [11] (fun e wr => ∃ (m : Nat) (p q : Int), m ≤ 2 ∧ e = .int .i64 (m : Int) ∧ wr.heap[tb]? = some (.cells #[.int .i64 p, .int .i64 q] 50 (0, 0)) ∧ (1 ≤ m → p = ren a b x) ∧ (2 ≤ m → q = ren a b y) ∧ Ext wo wr) (fun e _ => 2 - (intOf e).toNat)
        case atStart => exact ⟨0, 0, 0, by omega, rfl, T0.out, fun h => by omega, fun h => by omega, TX.out⟩
        case round =>
          clear T0 TX k0 k1 k2
          obtain ⟨m, p, q, hm, rfl, hT, hp, hq, hx⟩ := hrel
          have HX := hd hx
          have XW := hd (HB.out.ext.trans hx)
          obtain ⟨k0, k1, k2⟩ := BX.out _ XW.out
          obtain ⟨hc0, hc1⟩ := HCC.out _ (X0.out.trans XW.out)
          clear hx
          obtain rfl | rfl | rfl : m = 0 ∨ m = 1 ∨ m = 2 := by omega
          · obtain ⟨p0, p1⟩ := blk2 hT
            obtain ⟨pf0, pf1⟩ := blk2f hT
            have hts := blk_lt hT
            have HT := hd hT
            clear hT
            by_cases hz0 : x = b
            · have HR : Hid (ren a b x = (a : Int)) := hd (by unfold ren; rw [if_pos hz0])
              go_wp2
              go_roundw
              case rel => exact ⟨1, (a : Int), q, by omega, by go_num, by simp [World.setCell, Array.getElem?_modify, HT.out], (fun _ => HR.out.symm), (fun h => by omega), ext_b1 HX.out (Nat.le_of_eq htb)⟩
              case measure => simp [intOf]
            by_cases hz1 : (b : Int) < x
            · have HR : Hid (ren a b x = x - 1) := hd (by unfold ren; rw [if_neg hz0, if_pos hz1])
              go_wp2
              go_roundw
              case rel => exact ⟨1, x - 1, q, by omega, by go_num, by simp [World.setCell, Array.getElem?_modify, HT.out], (fun _ => HR.out.symm), (fun h => by omega), ext_b1 HX.out (Nat.le_of_eq htb)⟩
              case measure => simp [intOf]
            · have HR : Hid (ren a b x = x) := hd (by unfold ren; rw [if_neg hz0, if_neg hz1])
              go_wp2
              go_roundw
              case rel => exact ⟨1, x, q, by omega, by go_num, by simp [World.setCell, Array.getElem?_modify, HT.out], (fun _ => HR.out.symm), (fun h => by omega), ext_b1 HX.out (Nat.le_of_eq htb)⟩
              case measure => simp [intOf]
          · obtain ⟨p0, p1⟩ := blk2 hT
            obtain ⟨pf0, pf1⟩ := blk2f hT
            have hts := blk_lt hT
            have HT := hd hT
            clear hT
            by_cases hz0 : y = b
            · have HR : Hid (ren a b y = (a : Int)) := hd (by unfold ren; rw [if_pos hz0])
              go_wp2
              go_roundw
              case rel => exact ⟨2, p, (a : Int), by omega, by go_num, by simp [World.setCell, Array.getElem?_modify, HT.out], (fun _ => hp (by omega)), (fun _ => HR.out.symm), ext_b1 HX.out (Nat.le_of_eq htb)⟩
              case measure => simp [intOf]
            by_cases hz1 : (b : Int) < y
            · have HR : Hid (ren a b y = y - 1) := hd (by unfold ren; rw [if_neg hz0, if_pos hz1])
              go_wp2
              go_roundw
              case rel => exact ⟨2, p, y - 1, by omega, by go_num, by simp [World.setCell, Array.getElem?_modify, HT.out], (fun _ => hp (by omega)), (fun _ => HR.out.symm), ext_b1 HX.out (Nat.le_of_eq htb)⟩
              case measure => simp [intOf]
            · have HR : Hid (ren a b y = y) := hd (by unfold ren; rw [if_neg hz0, if_neg hz1])
              go_wp2
              go_roundw
              case rel => exact ⟨2, p, y, by omega, by go_num, by simp [World.setCell, Array.getElem?_modify, HT.out], (fun _ => hp (by omega)), (fun _ => HR.out.symm), ext_b1 HX.out (Nat.le_of_eq htb)⟩
              case measure => simp [intOf]
          · obtain ⟨p0, p1⟩ := blk2 hT
            replace hp := hp (by omega)
            replace hq := hq (by omega)
            have HT := hd hT
            have HBW := hd (HB.out.go HX.out)
            clear hT k0 k1 k2 hc0 hc1
            obtain ⟨c0, c1, c2⟩ := blk3 HBW.out.blk
            obtain ⟨f0, f1, f2⟩ := blk3f HBW.out.blk
            have hbl2 := blk_lt HBW.out.blk
            have HP := hd hp
            have HQ2 := hd hq
            by_cases hpq : p = q
            · have HN : Hid (mrgE a b (g.es.take (i + 1)) = mrgE a b (g.es.take i)) := hd (by rw [HE1.out, mrg1, if_pos (by show ren a b x = ren a b y; rw [← HP.out, ← HQ2.out]; exact hpq), List.append_nil])
              clear hp hq
              go_wp2
              go_roundw
              case rel => exact ⟨i + 1, ve, by omega, by go_num, by rw [HN.out]; exact HBW.out⟩
              case measure => simp [intOf]; omega
            · have HN : Hid (mrgE a b (g.es.take (i + 1)) = mrgE a b (g.es.take i) ++ [(min p q, max p q)]) := hd (by rw [HE1.out, mrg1, if_neg (by show ¬ ren a b x = ren a b y; rw [← HP.out, ← HQ2.out]; exact hpq), HP.out, HQ2.out])
              clear hp hq
              have hx0 := HBW.out.ext
              go_wp2_with fail
              refine wp_region_sink (fun w' => w'.cell? ⟨bx, 1, none⟩ = some ve ∧ w'.cell? ⟨tb, 0, none⟩ = some (.int .i64 p) ∧ w'.cell? ⟨tb, 1, none⟩ = some (.int .i64 q)) 16 17 #[false, false, false, false, false, false, false, false, false, false, false, false, false, false, false, false, false] (by kernel_rfl) (by kernel_rfl) (by kernel_rfl) ?_
              have HS : (wr.drew).cell? ⟨bx, 1, none⟩ = some ve ∧ (wr.drew).cell? ⟨tb, 0, none⟩ = some (.int .i64 p) ∧ (wr.drew).cell? ⟨tb, 1, none⟩ = some (.int .i64 q) := ⟨c1, p0, p1⟩
              refine ordG_take 0 (oi := ?oi1) (v := ?v1) ?hi1 ?hB1 ?hQ1 (Or.inl ⟨?hw1, ?hy1⟩) ?hS1 ?rest1
              case hi1 => (simp only [List.getElem?_toArray, List.getElem?_cons_zero]; rfl)
              case hB1 => kernel_rfl
              case hQ1 => exact fun _ _ _ h => h
              case hw1 => rfl
              case hy1 => (intro w hSw; (try dsimp only at hSw); go_simp; (try with_reducible rfl))
              case hS1 => exact HS
              (try simp only [Act.put, List.setIfInBounds_toArray, List.set_cons_zero, List.set_cons_succ])
              refine ordG_take 1 (oi := ?oi2) (v := ?v2) ?hi2 ?hB2 ?hQ2 (Or.inl ⟨?hw2, ?hy2⟩) ?hS2 ?rest2
              case hi2 => (simp only [List.getElem?_toArray, List.getElem?_cons_zero, List.getElem?_cons_succ]; rfl)
              case hB2 => kernel_rfl
              case hQ2 => exact fun _ _ _ h => h
              case hw2 => rfl
              case hy2 => (intro w hSw; (try dsimp only at hSw); go_simp; (try with_reducible rfl))
              case hS2 => exact HS
              (try simp only [Act.put, List.setIfInBounds_toArray, List.set_cons_zero, List.set_cons_succ])
              refine ordG_take 2 (oi := ?oi3) (v := ?v3) ?hi3 ?hB3 ?hQ3 (Or.inl ⟨?hw3, ?hy3⟩) ?hS3 ?rest3
              case hi3 => (simp only [List.getElem?_toArray, List.getElem?_cons_zero, List.getElem?_cons_succ]; rfl)
              case hB3 => kernel_rfl
              case hQ3 => exact fun _ _ _ h => h
              case hw3 => rfl
              case hy3 => (intro w hSw; (try dsimp only at hSw); go_simp; (try with_reducible rfl))
              case hS3 => exact HS
              (try simp only [Act.put, List.setIfInBounds_toArray, List.set_cons_zero, List.set_cons_succ])
              refine ordG_take 3 (oi := ?oi4) (v := ?v4) ?hi4 ?hB4 ?hQ4 (Or.inl ⟨?hw4, ?hy4⟩) ?hS4 ?rest4
              case hi4 => (simp only [List.getElem?_toArray, List.getElem?_cons_zero, List.getElem?_cons_succ]; rfl)
              case hB4 => kernel_rfl
              case hQ4 => exact fun _ _ _ h => h
              case hw4 => rfl
              case hy4 => (intro w hSw; (try dsimp only at hSw); go_simp; (try with_reducible rfl))
              case hS4 => exact HS
              (try simp only [Act.put, List.setIfInBounds_toArray, List.set_cons_zero, List.set_cons_succ])
              refine ordG_take 4 (oi := ?oi5) (v := ?v5) ?hi5 ?hB5 ?hQ5 (Or.inl ⟨?hw5, ?hy5⟩) ?hS5 ?rest5
              case hi5 => (simp only [List.getElem?_toArray, List.getElem?_cons_zero, List.getElem?_cons_succ]; rfl)
              case hB5 => kernel_rfl
              case hQ5 => exact fun _ _ _ h => h
              case hw5 => rfl
              case hy5 => (intro w hSw; (try dsimp only at hSw); go_simp; (try with_reducible rfl))
              case hS5 => exact HS
              (try simp only [Act.put, List.setIfInBounds_toArray, List.set_cons_zero, List.set_cons_succ])
              refine ordG_take 5 (oi := ?oi6) (v := ?v6) ?hi6 ?hB6 ?hQ6 (Or.inl ⟨?hw6, ?hy6⟩) ?hS6 ?rest6
              case hi6 => (simp only [List.getElem?_toArray, List.getElem?_cons_zero, List.getElem?_cons_succ]; rfl)
              case hB6 => kernel_rfl
              case hQ6 => exact fun _ _ _ h => h
              case hw6 => rfl
              case hy6 => (intro w hSw; (try dsimp only at hSw); go_simp; (try with_reducible rfl))
              case hS6 => exact HS
              (try simp only [Act.put, List.setIfInBounds_toArray, List.set_cons_zero, List.set_cons_succ])
              refine ordG_take 7 (oi := ?oi7) (v := ?v7) ?hi7 ?hB7 ?hQ7 (Or.inl ⟨?hw7, ?hy7⟩) ?hS7 ?rest7
              case hi7 => (simp only [List.getElem?_toArray, List.getElem?_cons_zero, List.getElem?_cons_succ]; rfl)
              case hB7 => kernel_rfl
              case hQ7 => exact fun _ _ _ h => h
              case hw7 => rfl
              case hy7 => (intro w hSw; (try dsimp only at hSw); go_simp; (try with_reducible rfl))
              case hS7 => exact HS
              (try simp only [Act.put, List.setIfInBounds_toArray, List.set_cons_zero, List.set_cons_succ])
              refine ordG_take 8 (oi := ?oi8) (v := ?v8) ?hi8 ?hB8 ?hQ8 (Or.inl ⟨?hw8, ?hy8⟩) ?hS8 ?rest8
              case hi8 => (simp only [List.getElem?_toArray, List.getElem?_cons_zero, List.getElem?_cons_succ]; rfl)
              case hB8 => kernel_rfl
              case hQ8 => exact fun _ _ _ h => h
              case hw8 => rfl
              case hy8 => (intro w hSw; (try dsimp only at hSw); go_simp; (try with_reducible rfl))
              case hS8 => exact HS
              (try simp only [Act.put, List.setIfInBounds_toArray, List.set_cons_zero, List.set_cons_succ])
              refine ordG_take 9 (oi := ?oi9) (v := ?v9) ?hi9 ?hB9 ?hQ9 (Or.inl ⟨?hw9, ?hy9⟩) ?hS9 ?rest9
              case hi9 => (simp only [List.getElem?_toArray, List.getElem?_cons_zero, List.getElem?_cons_succ]; rfl)
              case hB9 => kernel_rfl
              case hQ9 => exact fun _ _ _ h => h
              case hw9 => rfl
              case hy9 => (intro w hSw; (try dsimp only at hSw); go_simp; (try with_reducible rfl))
              case hS9 => exact HS
              (try simp only [Act.put, List.setIfInBounds_toArray, List.set_cons_zero, List.set_cons_succ])
              refine ordG_take 10 (oi := ?oi10) (v := ?v10) ?hi10 ?hB10 ?hQ10 (Or.inl ⟨?hw10, ?hy10⟩) ?hS10 ?rest10
              case hi10 => (simp only [List.getElem?_toArray, List.getElem?_cons_zero, List.getElem?_cons_succ]; rfl)
              case hB10 => kernel_rfl
              case hQ10 => exact fun _ _ _ h => h
              case hw10 => rfl
              case hy10 => (intro w hSw; (try dsimp only at hSw); go_simp; (try with_reducible rfl))
              case hS10 => exact HS
              (try simp only [Act.put, List.setIfInBounds_toArray, List.set_cons_zero, List.set_cons_succ])
              refine ordG_all (rs := [6]) (by kernel_rfl) (by simp) (by decide) ?all11
              refine ordG_cons (o := ?o12) ?ho12 (fun K hK => ?st12) ?mo12
              case ho12 => (simp only [List.getElem?_toArray, List.getElem?_cons_zero, List.getElem?_cons_succ]; rfl)
              case st12 =>
                go_simp
                go_at_call 26
                refine (s_l1Least _ _ _).mono ?_
                rintro e w1 ⟨rfl, rfl⟩
                go_simp
                refine hK.out _ _ HS ?_
                clear hK K
                (try simp only [List.setIfInBounds_toArray, List.set_cons_zero, List.set_cons_succ])
                refine ordG_all (rs := [11]) (by kernel_rfl) (by simp) (by decide) ?all13
                refine ordG_cons (o := ?o14) ?ho14 (fun K hK => ?st14) ?mo14
                case ho14 => (simp only [List.getElem?_toArray, List.getElem?_cons_zero, List.getElem?_cons_succ]; rfl)
                case st14 =>
                  go_simp
                  go_at_call 27
                  refine (s_l1Most _ _ _).mono ?_
                  rintro e w1 ⟨rfl, rfl⟩
                  go_simp
                  refine hK.out _ _ HS ?_
                  clear hK K
                  (try simp only [List.setIfInBounds_toArray, List.set_cons_zero, List.set_cons_succ])
                  refine ordG_take 12 (oi := ?oi15) (v := ?v15) ?hi15 ?hB15 ?hQ15 (Or.inl ⟨?hw15, ?hy15⟩) ?hS15 ?rest15
                  case hi15 => (simp only [List.getElem?_toArray, List.getElem?_cons_zero, List.getElem?_cons_succ]; rfl)
                  case hB15 => kernel_rfl
                  case hQ15 => exact fun _ _ _ h => h
                  case hw15 => rfl
                  case hy15 => (intro w hSw; (try dsimp only at hSw); go_simp; (try with_reducible rfl))
                  case hS15 => exact HS
                  (try simp only [Act.put, List.setIfInBounds_toArray, List.set_cons_zero, List.set_cons_succ])
                  refine ordG_all (rs := [13]) (by kernel_rfl) (by simp) (by decide) ?all16
                  refine ordG_cons (o := ?o17) ?ho17 (fun K hK => ?st17) ?mo17
                  case ho17 => (simp only [List.getElem?_toArray, List.getElem?_cons_zero, List.getElem?_cons_succ]; rfl)
                  case st17 =>
                    go_simp
                    refine hK.out _ _ ⟨(Ext.new _ _).cell HS.1, (Ext.new _ _).cell HS.2.1, (Ext.new _ _).cell HS.2.2⟩ ?_
                    clear hK K
                    (try simp only [List.setIfInBounds_toArray, List.set_cons_zero, List.set_cons_succ])
                    refine ordG_all (rs := [14]) (by kernel_rfl) (by simp) (by decide) ?all18
                    refine ordG_cons (o := ?o19) ?ho19 (fun K hK => ?st19) ?mo19
                    case ho19 => (simp only [List.getElem?_toArray, List.getElem?_cons_zero, List.getElem?_cons_succ]; rfl)
                    case st19 =>
                      refine stepEB HBW.out ((Ext.refl _).drew.trans (Ext.new _ _)) (blk_new _ rfl) rfl (.tmp 76) (.tmp 88) rfl (by rfl) (by rfl) (by omega) ?_
                      intro L A5 c5 w5 hL hB2 HP2 X8 hg5
                      obtain ⟨q0, q1, q2⟩ := blk3 hB2
                      obtain ⟨q3, q4, q5⟩ := blk3f hB2
                      have q6 := blk_lt hB2
                      have hT5 := (hg5.block tb (by have := blk_lt HT.out; simp; omega) (fun e => by have := (own_blocks HB.out.own tb e.symm).2; omega)).trans (blk_old (w := wr.drew) HT.out)
                      obtain ⟨q7, q8⟩ := blk2 hT5
                      refine hK.out _ _ ⟨q1, q7, q8⟩ ?_
                      clear hK K
                      (try simp only [Act.put, List.setIfInBounds_toArray, List.set_cons_zero, List.set_cons_succ])
                      have HS5 : (w5).cell? ⟨bx, 1, none⟩ = some ve ∧ (w5).cell? ⟨tb, 0, none⟩ = some (.int .i64 p) ∧ (w5).cell? ⟨tb, 1, none⟩ = some (.int .i64 q) := ⟨q1, q7, q8⟩
                      refine ordG_take 15 (oi := ?oi20) (v := ?v20) ?hi20 ?hB20 ?hQ20 (Or.inl ⟨?hw20, ?hy20⟩) ?hS20 ?rest20
                      case hi20 => (simp only [List.getElem?_toArray, List.getElem?_cons_zero, List.getElem?_cons_succ]; rfl)
                      case hB20 => kernel_rfl
                      case hQ20 => exact fun _ _ _ h => h
                      case hw20 => rfl
                      case hy20 => (intro w hSw; (try dsimp only at hSw); go_simp; (try with_reducible rfl))
                      case hS20 => exact HS5
                      (try simp only [Act.put, List.setIfInBounds_toArray, List.set_cons_zero, List.set_cons_succ])
                      refine ordG_last (by kernel_rfl) (by kernel_rfl) ?_
                      refine wpOp_step (o := ?olast) ?holast (fun K hK => ?stlast)
                      case holast => (simp only [List.getElem?_toArray, List.getElem?_cons_zero, List.getElem?_cons_succ]; rfl)
                      case stlast =>
                        go_simp
                        refine hK _ _ ?_
                        clear hK K
                        (try simp only [Act.put, List.setIfInBounds_toArray, List.set_cons_zero, List.set_cons_succ])
                        go_wp2
                        go_roundw
                        case rel => exact ⟨i + 1, _, by omega, by go_num, by rw [HN.out]; exact HP2.out⟩
                        case measure => simp [intOf]; omega
                    exact ordG_nil
                  exact ordG_nil
                exact ordG_nil
              exact ordG_nil
      · obtain rfl : i = g.es.length := by omega
        have HB2 : Hid (BxC W0 wr bx w2.heap.size (g.n - 1) ve (.slice (some ⟨w2.heap.size + 1, 0, none⟩) 0 0) (mrgE a b g.es) (accC g.cs a b 0)) := hd (by have := HB.out; rw [List.take_length] at this; exact this)
        have HMS : Hid (mrgS g.cs a b = (g.cs[a] + g.cs[b]) % 2) := hd (by unfold mrgS; rw [List.getElem?_eq_getElem ha2, List.getElem?_eq_getElem hbl]; rfl)
        clear HB k0 k1 k2
        have ea1 : (0 : Int) ≤ (a : Int) := by omega
        have ea2 : (a : Int) < (g.cs.length : Int) := by omega
        have eb1 : (0 : Int) ≤ (b : Int) := by omega
        have eb2 : (b : Int) < (g.cs.length : Int) := by omega
        obtain ⟨wo, rfl⟩ : ∃ wo : World, wo = wr := ⟨_, rfl⟩
        obtain ⟨k0, k1, k2⟩ := BX.out _ HB2.out.ext
        go_wp2
        clear k0 k1 k2
        go_loopw [13] (fun x wr => ∃ (v : Nat) (vc : Value), v ≤ g.cs.length ∧ x = .int .i64 (v : Int) ∧ BxC W0 wr bx w2.heap.size (g.n - 1) ve vc (mrgE a b g.es) (accC g.cs a b v)) (fun x _ => g.cs.length - (intOf x).toNat)
        case atStart => exact ⟨0, _, by omega, rfl, HB2.out⟩
        case round =>
          clear HB2
          obtain ⟨v, vc, hv, rfl, hB⟩ := hrel
          have HBW := hd hB
          have XB := hd hB.ext
          clear hB
          obtain ⟨k0, k1, k2⟩ := BX.out _ XB.out
          obtain ⟨c0, c1, c2⟩ := blk3 HBW.out.blk
          obtain ⟨f0, f1, f2⟩ := blk3f HBW.out.blk
          have hbl2 := blk_lt HBW.out.blk
          have hacl := accC_len g.cs a b v
          by_cases hlt : v < g.cs.length
          · have hvn : (v : Int) < g.n := by rw [← HNL.out]; omega
            have ev1 : (0 : Int) ≤ (v : Int) := by omega
            have ev2 : (v : Int) < (g.cs.length : Int) := by omega
            have HAC := hd (accC_succ g.cs a b v)
            by_cases hva : v = a
            · have hb1 : ((v : Int) == (a : Int)) = true := by simp [hva]
              have HA2 : Hid (accC g.cs a b (v + 1) = accC g.cs a b v ++ [(g.cs[a] + g.cs[b]) % 2]) := hd (by rw [HAC.out, acc1, if_pos hva, HMS.out])
              have HVA := hd hva
              clear hva
              have HEA := hd (fun (w' : World) (hx : Ext W0 w') => (HCS.out w' a ha2 (X0.out.trans hx)).1)
              have HEB := hd (fun (w' : World) (hx : Ext W0 w') => (HCS.out w' b hbl (X0.out.trans hx)).1)
              obtain ⟨-, xa0, xa1⟩ := HCS.out wr a ha2 (X0.out.trans XB.out)
              obtain ⟨-, xb0, xb1⟩ := HCS.out wr b hbl (X0.out.trans XB.out)
              generalize g.cs[a] = ca at *
              generalize g.cs[b] = cb at *
              have HA2 : Hid (accC g.cs a b (v + 1) = accC g.cs a b v ++ [(IntKind.i64.wrap (ca + cb)).tmod 2]) := hd (by rw [HA2.out, show IntKind.i64.wrap (ca + cb) = ca + cb from IntWalk.i64_in _ (by omega), Int.tmod_eq_emod_of_nonneg (by omega)])
              go_wp2_with fail
              refine wp_region_sink (fun w' => (w').cell? ⟨bx, 2, none⟩ = some vc ∧ (w').cell? ⟨w.heap.size, 2, none⟩ = some (.slice (some a1') g.cs.length c') ∧ (w').cell? (a1'.add a) = some (.int .i64 ca) ∧ (w').cell? (a1'.add b) = some (.int .i64 cb)) 17 18 #[false, false, false, false, false, false, false, false, false, false, false, false, false, false, false, false, false, false] (by kernel_rfl) (by kernel_rfl) (by kernel_rfl) ?_
              have XD : Ext W0 wr.drew := XB.out.drew
              have HS : (wr.drew).cell? ⟨bx, 2, none⟩ = some vc ∧ (wr.drew).cell? ⟨w.heap.size, 2, none⟩ = some (.slice (some a1') g.cs.length c') ∧ (wr.drew).cell? (a1'.add a) = some (.int .i64 ca) ∧ (wr.drew).cell? (a1'.add b) = some (.int .i64 cb) := ⟨c2, (BX.out _ XD).2.2, HEA.out _ XD, HEB.out _ XD⟩
              refine ordG_take 0 (oi := ?oi1001) (v := ?v1001) ?hi1001 ?hB1001 ?hQ1001 (Or.inl ⟨?hw1001, ?hy1001⟩) ?hS1001 ?rest1001
              case hi1001 => (simp only [List.getElem?_toArray, List.getElem?_cons_zero]; rfl)
              case hB1001 => kernel_rfl
              case hQ1001 => exact fun _ _ _ h => h
              case hw1001 => rfl
              case hy1001 => (intro w hSw; (try dsimp only at hSw); go_simp; (try with_reducible rfl))
              case hS1001 => exact HS
              (try simp only [Act.put, List.setIfInBounds_toArray, List.set_cons_zero, List.set_cons_succ])
              refine ordG_take 1 (oi := ?oi1002) (v := ?v1002) ?hi1002 ?hB1002 ?hQ1002 (Or.inl ⟨?hw1002, ?hy1002⟩) ?hS1002 ?rest1002
              case hi1002 => (simp only [List.getElem?_toArray, List.getElem?_cons_zero, List.getElem?_cons_succ]; rfl)
              case hB1002 => kernel_rfl
              case hQ1002 => exact fun _ _ _ h => h
              case hw1002 => rfl
              case hy1002 => (intro w hSw; (try dsimp only at hSw); go_simp; (try with_reducible rfl))
              case hS1002 => exact HS
              (try simp only [Act.put, List.setIfInBounds_toArray, List.set_cons_zero, List.set_cons_succ])
              refine ordG_take 2 (oi := ?oi1003) (v := ?v1003) ?hi1003 ?hB1003 ?hQ1003 (Or.inl ⟨?hw1003, ?hy1003⟩) ?hS1003 ?rest1003
              case hi1003 => (simp only [List.getElem?_toArray, List.getElem?_cons_zero, List.getElem?_cons_succ]; rfl)
              case hB1003 => kernel_rfl
              case hQ1003 => exact fun _ _ _ h => h
              case hw1003 => rfl
              case hy1003 => (intro w hSw; (try dsimp only at hSw); go_simp; (try with_reducible rfl))
              case hS1003 => exact HS
              (try simp only [Act.put, List.setIfInBounds_toArray, List.set_cons_zero, List.set_cons_succ])
              refine ordG_take 3 (oi := ?oi1004) (v := ?v1004) ?hi1004 ?hB1004 ?hQ1004 (Or.inl ⟨?hw1004, ?hy1004⟩) ?hS1004 ?rest1004
              case hi1004 => (simp only [List.getElem?_toArray, List.getElem?_cons_zero, List.getElem?_cons_succ]; rfl)
              case hB1004 => kernel_rfl
              case hQ1004 => exact fun _ _ _ h => h
              case hw1004 => rfl
              case hy1004 => (intro w hSw; (try dsimp only at hSw); go_simp; (try with_reducible rfl))
              case hS1004 => exact HS
              (try simp only [Act.put, List.setIfInBounds_toArray, List.set_cons_zero, List.set_cons_succ])
              refine ordG_take 4 (oi := ?oi1005) (v := ?v1005) ?hi1005 ?hB1005 ?hQ1005 (Or.inl ⟨?hw1005, ?hy1005⟩) ?hS1005 ?rest1005
              case hi1005 => (simp only [List.getElem?_toArray, List.getElem?_cons_zero, List.getElem?_cons_succ]; rfl)
              case hB1005 => kernel_rfl
              case hQ1005 => exact fun _ _ _ h => h
              case hw1005 => rfl
              case hy1005 => (intro w hSw; (try dsimp only at hSw); go_simp; (try with_reducible rfl))
              case hS1005 => exact HS
              (try simp only [Act.put, List.setIfInBounds_toArray, List.set_cons_zero, List.set_cons_succ])
              refine ordG_take 5 (oi := ?oi1006) (v := ?v1006) ?hi1006 ?hB1006 ?hQ1006 (Or.inl ⟨?hw1006, ?hy1006⟩) ?hS1006 ?rest1006
              case hi1006 => (simp only [List.getElem?_toArray, List.getElem?_cons_zero, List.getElem?_cons_succ]; rfl)
              case hB1006 => kernel_rfl
              case hQ1006 => exact fun _ _ _ h => h
              case hw1006 => rfl
              case hy1006 => (intro w hSw; (try dsimp only at hSw); go_simp; (try with_reducible rfl))
              case hS1006 => exact HS
              (try simp only [Act.put, List.setIfInBounds_toArray, List.set_cons_zero, List.set_cons_succ])
              refine ordG_take 6 (oi := ?oi1007) (v := ?v1007) ?hi1007 ?hB1007 ?hQ1007 (Or.inl ⟨?hw1007, ?hy1007⟩) ?hS1007 ?rest1007
              case hi1007 => (simp only [List.getElem?_toArray, List.getElem?_cons_zero, List.getElem?_cons_succ]; rfl)
              case hB1007 => kernel_rfl
              case hQ1007 => exact fun _ _ _ h => h
              case hw1007 => rfl
              case hy1007 => (intro w hSw; (try dsimp only at hSw); go_simp; (try with_reducible rfl))
              case hS1007 => exact HS
              (try simp only [Act.put, List.setIfInBounds_toArray, List.set_cons_zero, List.set_cons_succ])
              refine ordG_take 7 (oi := ?oi1008) (v := ?v1008) ?hi1008 ?hB1008 ?hQ1008 (Or.inl ⟨?hw1008, ?hy1008⟩) ?hS1008 ?rest1008
              case hi1008 => (simp only [List.getElem?_toArray, List.getElem?_cons_zero, List.getElem?_cons_succ]; rfl)
              case hB1008 => kernel_rfl
              case hQ1008 => exact fun _ _ _ h => h
              case hw1008 => rfl
              case hy1008 => (intro w hSw; (try dsimp only at hSw); go_simp; (try with_reducible rfl))
              case hS1008 => exact HS
              (try simp only [Act.put, List.setIfInBounds_toArray, List.set_cons_zero, List.set_cons_succ])
              refine ordG_take 8 (oi := ?oi1009) (v := ?v1009) ?hi1009 ?hB1009 ?hQ1009 (Or.inl ⟨?hw1009, ?hy1009⟩) ?hS1009 ?rest1009
              case hi1009 => (simp only [List.getElem?_toArray, List.getElem?_cons_zero, List.getElem?_cons_succ]; rfl)
              case hB1009 => kernel_rfl
              case hQ1009 => exact fun _ _ _ h => h
              case hw1009 => rfl
              case hy1009 => (intro w hSw; (try dsimp only at hSw); go_simp; (try with_reducible rfl))
              case hS1009 => exact HS
              (try simp only [Act.put, List.setIfInBounds_toArray, List.set_cons_zero, List.set_cons_succ])
              refine ordG_take 9 (oi := ?oi1010) (v := ?v1010) ?hi1010 ?hB1010 ?hQ1010 (Or.inl ⟨?hw1010, ?hy1010⟩) ?hS1010 ?rest1010
              case hi1010 => (simp only [List.getElem?_toArray, List.getElem?_cons_zero, List.getElem?_cons_succ]; rfl)
              case hB1010 => kernel_rfl
              case hQ1010 => exact fun _ _ _ h => h
              case hw1010 => rfl
              case hy1010 => (intro w hSw; (try dsimp only at hSw); go_simp; (try with_reducible rfl))
              case hS1010 => exact HS
              (try simp only [Act.put, List.setIfInBounds_toArray, List.set_cons_zero, List.set_cons_succ])
              refine ordG_take 10 (oi := ?oi1011) (v := ?v1011) ?hi1011 ?hB1011 ?hQ1011 (Or.inl ⟨?hw1011, ?hy1011⟩) ?hS1011 ?rest1011
              case hi1011 => (simp only [List.getElem?_toArray, List.getElem?_cons_zero, List.getElem?_cons_succ]; rfl)
              case hB1011 => kernel_rfl
              case hQ1011 => exact fun _ _ _ h => h
              case hw1011 => rfl
              case hy1011 => (intro w hSw; (try dsimp only at hSw); go_simp; (try with_reducible rfl))
              case hS1011 => exact HS
              (try simp only [Act.put, List.setIfInBounds_toArray, List.set_cons_zero, List.set_cons_succ])
              refine ordG_take 11 (oi := ?oi1012) (v := ?v1012) ?hi1012 ?hB1012 ?hQ1012 (Or.inl ⟨?hw1012, ?hy1012⟩) ?hS1012 ?rest1012
              case hi1012 => (simp only [List.getElem?_toArray, List.getElem?_cons_zero, List.getElem?_cons_succ]; rfl)
              case hB1012 => kernel_rfl
              case hQ1012 => exact fun _ _ _ h => h
              case hw1012 => rfl
              case hy1012 => (intro w hSw; (try dsimp only at hSw); go_simp; (try with_reducible rfl))
              case hS1012 => exact HS
              (try simp only [Act.put, List.setIfInBounds_toArray, List.set_cons_zero, List.set_cons_succ])
              refine ordG_take 12 (oi := ?oi1013) (v := ?v1013) ?hi1013 ?hB1013 ?hQ1013 (Or.inl ⟨?hw1013, ?hy1013⟩) ?hS1013 ?rest1013
              case hi1013 => (simp only [List.getElem?_toArray, List.getElem?_cons_zero, List.getElem?_cons_succ]; rfl)
              case hB1013 => kernel_rfl
              case hQ1013 => exact fun _ _ _ h => h
              case hw1013 => rfl
              case hy1013 => (intro w hSw; (try dsimp only at hSw); go_simp; (try with_reducible rfl))
              case hS1013 => exact HS
              (try simp only [Act.put, List.setIfInBounds_toArray, List.set_cons_zero, List.set_cons_succ])
              refine ordG_take 13 (oi := ?oi1014) (v := ?v1014) ?hi1014 ?hB1014 ?hQ1014 (Or.inl ⟨?hw1014, ?hy1014⟩) ?hS1014 ?rest1014
              case hi1014 => (simp only [List.getElem?_toArray, List.getElem?_cons_zero, List.getElem?_cons_succ]; rfl)
              case hB1014 => kernel_rfl
              case hQ1014 => exact fun _ _ _ h => h
              case hw1014 => rfl
              case hy1014 => (intro w hSw; (try dsimp only at hSw); go_simp; (try with_reducible rfl))
              case hS1014 => exact HS
              (try simp only [Act.put, List.setIfInBounds_toArray, List.set_cons_zero, List.set_cons_succ])
              refine ordG_all (rs := [14]) (by kernel_rfl) (by simp) (by decide) ?all1015
              refine ordG_cons (o := ?o1016) ?ho1016 (fun K hK => ?st1016) ?mo1016
              case ho1016 => (simp only [List.getElem?_toArray, List.getElem?_cons_zero, List.getElem?_cons_succ]; rfl)
              case st1016 =>
                go_simp
                have XE : Ext W0 (wr.drew.alloc (.cells #[.int .i64 ((IntKind.i64.wrap (ca + cb)).tmod 2)] 3)) := XD.alloc _
                refine hK.out _ _ ⟨(Ext.new _ _).cell HS.1, (BX.out _ XE).2.2, HEA.out _ XE, HEB.out _ XE⟩ ?_
                clear hK K
                (try simp only [List.setIfInBounds_toArray, List.set_cons_zero, List.set_cons_succ])
                refine ordG_all (rs := [15]) (by kernel_rfl) (by simp) (by decide) ?all1017
                refine ordG_cons (o := ?o1018) ?ho1018 (fun K hK => ?st1018) ?mo1018
                case ho1018 => (simp only [List.getElem?_toArray, List.getElem?_cons_zero, List.getElem?_cons_succ]; rfl)
                case st1018 =>
                  refine stepCB (x := (IntKind.i64.wrap (ca + cb)).tmod 2) HBW.out ((Ext.refl _).drew.trans (Ext.new _ _)) (blk_new _ rfl) rfl (.tmp 112) (.tmp 125) rfl (by rfl) (by rfl) (by omega) ?_
                  intro L A5 c5 w5 hL hB2 HP2 X8
                  obtain ⟨q0, q1, q2⟩ := blk3 hB2
                  obtain ⟨q3, q4, q5⟩ := blk3f hB2
                  have q6 := blk_lt hB2
                  have HS5 : (w5).cell? ⟨bx, 2, none⟩ = some vc ∧ (w5).cell? ⟨w.heap.size, 2, none⟩ = some (.slice (some a1') g.cs.length c') ∧ (w5).cell? (a1'.add a) = some (.int .i64 ca) ∧ (w5).cell? (a1'.add b) = some (.int .i64 cb) := ⟨q2, (BX.out _ X8).2.2, HEA.out _ X8, HEB.out _ X8⟩
                  refine hK.out _ _ HS5 ?_
                  clear hK K
                  (try simp only [Act.put, List.setIfInBounds_toArray, List.set_cons_zero, List.set_cons_succ])
                  refine ordG_take 16 (oi := ?oi1019) (v := ?v1019) ?hi1019 ?hB1019 ?hQ1019 (Or.inl ⟨?hw1019, ?hy1019⟩) ?hS1019 ?rest1019
                  case hi1019 => (simp only [List.getElem?_toArray, List.getElem?_cons_zero, List.getElem?_cons_succ]; rfl)
                  case hB1019 => kernel_rfl
                  case hQ1019 => exact fun _ _ _ h => h
                  case hw1019 => rfl
                  case hy1019 => (intro w hSw; (try dsimp only at hSw); go_simp; (try with_reducible rfl))
                  case hS1019 => exact HS5
                  (try simp only [Act.put, List.setIfInBounds_toArray, List.set_cons_zero, List.set_cons_succ])
                  refine ordG_last (by kernel_rfl) (by kernel_rfl) ?_
                  refine wpOp_step (o := ?olast18) ?holast18 (fun K hK => ?stlast18)
                  case holast18 => (simp only [List.getElem?_toArray, List.getElem?_cons_zero, List.getElem?_cons_succ]; rfl)
                  case stlast18 =>
                    go_simp
                    refine hK _ _ ?_
                    clear hK K
                    (try simp only [Act.put, List.setIfInBounds_toArray, List.set_cons_zero, List.set_cons_succ])
                    go_wp2
                    go_roundw
                    case rel => exact ⟨v + 1, _, by omega, by go_num, by rw [HA2.out]; exact HP2.out⟩
                    case measure => simp [intOf]; omega
                exact ordG_nil
              exact ordG_nil
            have hb1 : ((v : Int) == (a : Int)) = false := by simp; omega
            by_cases hvb : v = b
            · have hb2 : ((v : Int) == (b : Int)) = true := by simp [hvb]
              have HA2 : Hid (accC g.cs a b (v + 1) = accC g.cs a b v) := hd (by rw [HAC.out, acc1, if_neg hva, if_pos hvb, List.append_nil])
              clear hva hvb
              go_wp2
              go_roundw
              case rel => exact ⟨v + 1, vc, by omega, by go_num, by rw [HA2.out]; exact HBW.out⟩
              case measure => simp [intOf]; omega
            · have hb2 : ((v : Int) == (b : Int)) = false := by simp; omega
              have HA2 : Hid (accC g.cs a b (v + 1) = accC g.cs a b v ++ [g.cs[v]]) := hd (by rw [HAC.out, acc1, if_neg hva, if_neg hvb, List.getElem?_eq_getElem hlt]; rfl)
              have HEA := hd (fun (w' : World) (hx : Ext W0 w') => (HCS.out w' v hlt (X0.out.trans hx)).1)
              generalize g.cs[v] = cv at *
              clear hva hvb
              go_wp2_with fail
              refine wp_region_sink (fun w' => (w').cell? ⟨bx, 2, none⟩ = some vc ∧ (w').cell? ⟨w.heap.size, 2, none⟩ = some (.slice (some a1') g.cs.length c') ∧ (w').cell? (a1'.add v) = some (.int .i64 cv)) 10 11 #[false, false, false, false, false, false, false, false, false, false, false] (by kernel_rfl) (by kernel_rfl) (by kernel_rfl) ?_
              have XD : Ext W0 wr.drew := XB.out.drew
              have HS : (wr.drew).cell? ⟨bx, 2, none⟩ = some vc ∧ (wr.drew).cell? ⟨w.heap.size, 2, none⟩ = some (.slice (some a1') g.cs.length c') ∧ (wr.drew).cell? (a1'.add v) = some (.int .i64 cv) := ⟨c2, (BX.out _ XD).2.2, HEA.out _ XD⟩
              refine ordG_take 0 (oi := ?oi1020) (v := ?v1020) ?hi1020 ?hB1020 ?hQ1020 (Or.inl ⟨?hw1020, ?hy1020⟩) ?hS1020 ?rest1020
              case hi1020 => (simp only [List.getElem?_toArray, List.getElem?_cons_zero]; rfl)
              case hB1020 => kernel_rfl
              case hQ1020 => exact fun _ _ _ h => h
              case hw1020 => rfl
              case hy1020 => (intro w hSw; (try dsimp only at hSw); go_simp; (try with_reducible rfl))
              case hS1020 => exact HS
              (try simp only [Act.put, List.setIfInBounds_toArray, List.set_cons_zero, List.set_cons_succ])
              refine ordG_take 1 (oi := ?oi1021) (v := ?v1021) ?hi1021 ?hB1021 ?hQ1021 (Or.inl ⟨?hw1021, ?hy1021⟩) ?hS1021 ?rest1021
              case hi1021 => (simp only [List.getElem?_toArray, List.getElem?_cons_zero, List.getElem?_cons_succ]; rfl)
              case hB1021 => kernel_rfl
              case hQ1021 => exact fun _ _ _ h => h
              case hw1021 => rfl
              case hy1021 => (intro w hSw; (try dsimp only at hSw); go_simp; (try with_reducible rfl))
              case hS1021 => exact HS
              (try simp only [Act.put, List.setIfInBounds_toArray, List.set_cons_zero, List.set_cons_succ])
              refine ordG_take 2 (oi := ?oi1022) (v := ?v1022) ?hi1022 ?hB1022 ?hQ1022 (Or.inl ⟨?hw1022, ?hy1022⟩) ?hS1022 ?rest1022
              case hi1022 => (simp only [List.getElem?_toArray, List.getElem?_cons_zero, List.getElem?_cons_succ]; rfl)
              case hB1022 => kernel_rfl
              case hQ1022 => exact fun _ _ _ h => h
              case hw1022 => rfl
              case hy1022 => (intro w hSw; (try dsimp only at hSw); go_simp; (try with_reducible rfl))
              case hS1022 => exact HS
              (try simp only [Act.put, List.setIfInBounds_toArray, List.set_cons_zero, List.set_cons_succ])
              refine ordG_take 3 (oi := ?oi1023) (v := ?v1023) ?hi1023 ?hB1023 ?hQ1023 (Or.inl ⟨?hw1023, ?hy1023⟩) ?hS1023 ?rest1023
              case hi1023 => (simp only [List.getElem?_toArray, List.getElem?_cons_zero, List.getElem?_cons_succ]; rfl)
              case hB1023 => kernel_rfl
              case hQ1023 => exact fun _ _ _ h => h
              case hw1023 => rfl
              case hy1023 => (intro w hSw; (try dsimp only at hSw); go_simp; (try with_reducible rfl))
              case hS1023 => exact HS
              (try simp only [Act.put, List.setIfInBounds_toArray, List.set_cons_zero, List.set_cons_succ])
              refine ordG_take 4 (oi := ?oi1024) (v := ?v1024) ?hi1024 ?hB1024 ?hQ1024 (Or.inl ⟨?hw1024, ?hy1024⟩) ?hS1024 ?rest1024
              case hi1024 => (simp only [List.getElem?_toArray, List.getElem?_cons_zero, List.getElem?_cons_succ]; rfl)
              case hB1024 => kernel_rfl
              case hQ1024 => exact fun _ _ _ h => h
              case hw1024 => rfl
              case hy1024 => (intro w hSw; (try dsimp only at hSw); go_simp; (try with_reducible rfl))
              case hS1024 => exact HS
              (try simp only [Act.put, List.setIfInBounds_toArray, List.set_cons_zero, List.set_cons_succ])
              refine ordG_take 5 (oi := ?oi1025) (v := ?v1025) ?hi1025 ?hB1025 ?hQ1025 (Or.inl ⟨?hw1025, ?hy1025⟩) ?hS1025 ?rest1025
              case hi1025 => (simp only [List.getElem?_toArray, List.getElem?_cons_zero, List.getElem?_cons_succ]; rfl)
              case hB1025 => kernel_rfl
              case hQ1025 => exact fun _ _ _ h => h
              case hw1025 => rfl
              case hy1025 => (intro w hSw; (try dsimp only at hSw); go_simp; (try with_reducible rfl))
              case hS1025 => exact HS
              (try simp only [Act.put, List.setIfInBounds_toArray, List.set_cons_zero, List.set_cons_succ])
              refine ordG_take 6 (oi := ?oi1026) (v := ?v1026) ?hi1026 ?hB1026 ?hQ1026 (Or.inl ⟨?hw1026, ?hy1026⟩) ?hS1026 ?rest1026
              case hi1026 => (simp only [List.getElem?_toArray, List.getElem?_cons_zero, List.getElem?_cons_succ]; rfl)
              case hB1026 => kernel_rfl
              case hQ1026 => exact fun _ _ _ h => h
              case hw1026 => rfl
              case hy1026 => (intro w hSw; (try dsimp only at hSw); go_simp; (try with_reducible rfl))
              case hS1026 => exact HS
              (try simp only [Act.put, List.setIfInBounds_toArray, List.set_cons_zero, List.set_cons_succ])
              refine ordG_all (rs := [7]) (by kernel_rfl) (by simp) (by decide) ?all1027
              refine ordG_cons (o := ?o1028) ?ho1028 (fun K hK => ?st1028) ?mo1028
              case ho1028 => (simp only [List.getElem?_toArray, List.getElem?_cons_zero, List.getElem?_cons_succ]; rfl)
              case st1028 =>
                go_simp
                have XE : Ext W0 (wr.drew.alloc (.cells #[.int .i64 (cv)] 3)) := XD.alloc _
                refine hK.out _ _ ⟨(Ext.new _ _).cell HS.1, (BX.out _ XE).2.2, HEA.out _ XE⟩ ?_
                clear hK K
                (try simp only [List.setIfInBounds_toArray, List.set_cons_zero, List.set_cons_succ])
                refine ordG_all (rs := [8]) (by kernel_rfl) (by simp) (by decide) ?all1029
                refine ordG_cons (o := ?o1030) ?ho1030 (fun K hK => ?st1030) ?mo1030
                case ho1030 => (simp only [List.getElem?_toArray, List.getElem?_cons_zero, List.getElem?_cons_succ]; rfl)
                case st1030 =>
                  refine stepCB (x := cv) HBW.out ((Ext.refl _).drew.trans (Ext.new _ _)) (blk_new _ rfl) rfl (.tmp 99) (.tmp 105) rfl (by rfl) (by rfl) (by omega) ?_
                  intro L A5 c5 w5 hL hB2 HP2 X8
                  obtain ⟨q0, q1, q2⟩ := blk3 hB2
                  obtain ⟨q3, q4, q5⟩ := blk3f hB2
                  have q6 := blk_lt hB2
                  have HS5 : (w5).cell? ⟨bx, 2, none⟩ = some vc ∧ (w5).cell? ⟨w.heap.size, 2, none⟩ = some (.slice (some a1') g.cs.length c') ∧ (w5).cell? (a1'.add v) = some (.int .i64 cv) := ⟨q2, (BX.out _ X8).2.2, HEA.out _ X8⟩
                  refine hK.out _ _ HS5 ?_
                  clear hK K
                  (try simp only [Act.put, List.setIfInBounds_toArray, List.set_cons_zero, List.set_cons_succ])
                  refine ordG_take 9 (oi := ?oi1031) (v := ?v1031) ?hi1031 ?hB1031 ?hQ1031 (Or.inl ⟨?hw1031, ?hy1031⟩) ?hS1031 ?rest1031
                  case hi1031 => (simp only [List.getElem?_toArray, List.getElem?_cons_zero, List.getElem?_cons_succ]; rfl)
                  case hB1031 => kernel_rfl
                  case hQ1031 => exact fun _ _ _ h => h
                  case hw1031 => rfl
                  case hy1031 => (intro w hSw; (try dsimp only at hSw); go_simp; (try with_reducible rfl))
                  case hS1031 => exact HS5
                  (try simp only [Act.put, List.setIfInBounds_toArray, List.set_cons_zero, List.set_cons_succ])
                  refine ordG_last (by kernel_rfl) (by kernel_rfl) ?_
                  refine wpOp_step (o := ?olast11) ?holast11 (fun K hK => ?stlast11)
                  case holast11 => (simp only [List.getElem?_toArray, List.getElem?_cons_zero, List.getElem?_cons_succ]; rfl)
                  case stlast11 =>
                    go_simp
                    refine hK _ _ ?_
                    clear hK K
                    (try simp only [Act.put, List.setIfInBounds_toArray, List.set_cons_zero, List.set_cons_succ])
                    go_wp2
                    go_roundw
                    case rel => exact ⟨v + 1, _, by omega, by go_num, by rw [HA2.out]; exact HP2.out⟩
                    case measure => simp [intOf]; omega
                exact ordG_nil
              exact ordG_nil
          · obtain rfl : v = g.cs.length := by omega
            have hvn : ¬ ((g.cs.length : Int) < g.n) := by rw [← HNL.out]; omega
            have HA2 : Hid (BxC W0 wr bx w2.heap.size (g.n - 1) ve vc (mrgE a b g.es) (mrgC g.cs a b)) := hd (by rw [← HACC.out]; exact HBW.out)
            obtain ⟨A7, L7, c7, rfl⟩ : ∃ A L c, ve = .slice A L c := by
              obtain ⟨A, c, h, -⟩ := OwnP.form HA2.out.own
              exact ⟨_, _, _, h⟩
            obtain ⟨A8, L8, c8, rfl⟩ : ∃ A L c, vc = .slice A L c := by
              obtain ⟨A, c, h, -⟩ := OwnI.form HA2.out.owc
              exact ⟨_, _, _, h⟩
            obtain ⟨q, hq⟩ : ∃ q, goodC ⟨g.n - 1, mrgE a b g.es, mrgC g.cs a b⟩ = q := ⟨_, rfl⟩
            have HGQ := hd hq
            clear hq
            go_wp2_with fail
            refine (s_l27Good ⟨g.n - 1, mrgE a b g.es, mrgC g.cs a b⟩ _ _ HA2.out.rd).mono ?_
            rw [HGQ.out]
            rintro e w5 ⟨rfl, hx5⟩
            have HF := hd (HA2.out.go hx5)
            clear c0 c1 c2 f0 f1 f2 k0 k1 k2
            obtain ⟨c0, c1, c2⟩ := blk3 HF.out.blk
            obtain ⟨r0, r1, r2⟩ := blk3 (RX.out _ HF.out.ext)
            obtain ⟨rf0, rf1, rf2⟩ := blk3f (RX.out _ HF.out.ext)
            have hsz := HF.out.ext.size
            cases q
            · go_wp2
              exact bodyPost_ret (v := .tuple #[.agg #[.int .i64 0, .slice none 0 0, .slice none 0 0], .bool false]) (by simp [results, Try.results8, go_sem, r0, r1, r2]) rfl ⟨_, by rw [HGB.out, HGQ.out], by unfold mrgV; rw [HGB.out, HGQ.out]; exact ownC_zero, ext_b3 (X0.out.trans HF.out.ext) (by omega)⟩
            · go_wp2
              exact bodyPost_ret (v := .tuple #[.agg #[.int .i64 (g.n - 1), .slice A7 L7 c7, .slice A8 L8 c8], .bool true]) (by simp [results, Try.results8, go_sem, r0, r1, r2]) rfl ⟨_, by rw [HGB.out, HGQ.out], by unfold mrgV; rw [HGB.out, HGQ.out, if_pos rfl, HGG.out]; exact ownC_b3 HF.out.own HF.out.owc (by omega) (by omega) (by simp), ext_b3 (X0.out.trans HF.out.ext) (by omega)⟩
end Go.Proofs.Ytljhcofehhpinaa
