/-
  EdgeCnf: the program's function. Conditions: none but the machine's integers.
-/
import Derived.Test.YtgkifandgacncaaEdgI
namespace Go.Proofs.Ytgkifandgacncaa
open Go.RowKit
theorem rdI_lit {w : World} {b : Nat} {xs : List Int} (h : w.heap[b]? = some (.cells (ints xs).toArray 3 (0, 0))) (hn : xs.length ≤ 1048576) : RdI w (.slice (some ⟨b, 0, none⟩) xs.length xs.length) xs := by
  have := rdZ_at (us := ints xs) h (by simp [ints]; omega)
  rw [show (ints xs).length = xs.length from by simp [ints]] at this
  exact this
set_option maxRecDepth 100000 in
set_option maxHeartbeats 12800000 in
theorem i_EdgeCnf (n : Int) (w : World) (_ : I64 n) : Calls Try.prog 16 #[.int .i64 n] w (RetEg w (edgeV n) (edgeK n) (edgeB n)) := by
  obtain ⟨q0, hq0⟩ : ∃ q, inB n 2 3 = q := ⟨_, rfl⟩
  have HQ0 := hd hq0
  obtain ⟨W1, hW1⟩ : ∃ W1, W1 = (w.alloc (.cells #[.int .i64 n] 3)).alloc (.cells #[.int .i64 0, .slice none 0 0] 29) := ⟨_, rfl⟩
  have X0 : Hid (Ext w W1) := hd (by rw [hW1]; exact (Ext.new _ _).alloc _)
  have N0 : Hid (W1.cell? ⟨w.heap.size, 0, none⟩ = some (.int .i64 n)) := hd (by
    rw [hW1]
    have h := blk_old (o' := .cells #[.int .i64 0, .slice none 0 0] 29) (blk_new (w := w) (.cells #[.int .i64 n] 3) rfl)
    simp [World.cell?, h])
  have R0 : Hid (W1.heap[w.heap.size + 1]? = some (.cells #[.int .i64 0, .slice none 0 0] 29)) := hd (by rw [hW1]; exact blk_new _ (by simp))
  have HW1 := hd hW1
  have hz0 : w.heap.size + 2 = W1.heap.size := by rw [hW1]; simp
  clear hW1
  have n0 := N0.out
  cases q0
  · obtain ⟨p0, p1⟩ := blk2 R0.out
    obtain ⟨f0, f1⟩ := blk2f R0.out
    have f2 := blk_lt R0.out
    have X4 := hd (ext_set (i := 1) (ext_set (i := 0) X0.out (g := w.heap.size + 1) (by omega) (.int .i64 0)) (g := w.heap.size + 1) (by omega) (.slice none 0 0))
    clear hq0
    go_enter Try.func16, Try.ntmps16
    go_wp2_with (rw [← HW1.out])
    refine (rt (i_within n 2 3 _) HQ0).mono ?_
    rintro e w1 ⟨rfl, rfl⟩
    go_wp2
    exact bodyPost_ret (v := .tuple #[.agg #[.int .i64 0, .slice none 0 0], .int .i64 0, .bool false]) (by simp [results, Try.results16, go_sem, p0, p1]) rfl (RetEg.zero (by first | exact X0.out | exact X4.out) HQ0.out)
  · have h0 := inB_iff.1 hq0
    clear hq0
    obtain ⟨m, rfl⟩ := Int.eq_ofNat_of_zero_le (show 0 ≤ n by omega)
    have hm : 2 ≤ m ∧ m ≤ 3 := by omega
    have HV : Hid (edgeV (m : Int) = edF m ∧ edgeK (m : Int) = edK m ∧ edgeB (m : Int) = true) := hd (by unfold edgeV edgeK edgeB; rw [HQ0.out]; exact ⟨rfl, rfl, rfl⟩)
    have HED : Hid (edF m = ⟨pM m + 3 * (m : Int), ed1 m ++ edD m m ++ edE m m⟩ ∧ edK m = ((ed1 m).length : Int) ∧ ed1 m = edA m 2 ++ edB m m ++ edC m m) := hd ⟨rfl, rfl, rfl⟩
    have HGD : Hid (goodB ⟨pM m + 3 * (m : Int), (edF m).cs⟩ = true) := hd (ed_good hm)
    have HBD : Hid (Bd_Cnf ⟨pM m + 3 * (m : Int), (edF m).cs⟩) := hd (ed_bd hm)
    have hP := pM_bd hm
    have HA1 : Hid ([] ++ [seqI (pM m + 1) m] ++ [seqI (pM m + (m : Int) + 1) m] = edA m 2) := hd (by
      rw [edA_succ, edA_succ]
      simp [edA])
    have HAO1 : Hid ((seqI (pM m + 1) m).Pairwise fun a b => absI a < absI b) := hd (by have := (edA_ok hm (i := 0) (by omega)).1; simpa using this)
    have HAO2 : Hid (∀ x ∈ seqI (pM m + 1) m, -1000 ≤ x ∧ x ≤ 1000) := hd (by have := (edA_ok hm (i := 0) (by omega)).2; simpa using this)
    have HAO3 : Hid ((seqI (pM m + (m : Int) + 1) m).Pairwise fun a b => absI a < absI b) := hd (by have := (edA_ok hm (i := 1) (by omega)).1; simpa using this)
    have HAO4 : Hid (∀ x ∈ seqI (pM m + (m : Int) + 1) m, -1000 ≤ x ∧ x ≤ 1000) := hd (by have := (edA_ok hm (i := 1) (by omega)).2; simpa using this)
    have HBO := hd (fun v (hv : v < m) => edB_ok hm hv)
    have HBS := hd (fun k => edB_succ m k)
    have HCS := hd (fun k => edC_succ m k)
    have HDS := hd (fun k => edD_succ m k)
    have HES := hd (fun k => edE_succ m k)
    have HCR := hd (fun u k => edCr_succ m u k)
    have HER := hd (fun u k => edEr_succ m u k)
    have HCX : Hid (∀ u v, edCx m u v = [pE m (u + 1) (v + 1), -(pM m + ((u : Int) + 1)), -(pM m + (m : Int) + ((v : Int) + 1))]) := hd fun _ _ => rfl
    have HEX : Hid (∀ u v, edEx m u v = [-(pE m (u + 1) (v + 1)), -(pM m + 2 * (m : Int) + ((u : Int) + 1)), -(pM m + 2 * (m : Int) + ((v : Int) + 1))]) := hd fun _ _ => rfl
    have HCO := hd (fun u v (hu : u < m) (hv : v < m) (hne : u ≠ v) => edCx_ok hm hu hv hne)
    have HEO := hd (fun u v (hu : u < v) (hv : v < m) => edEx_ok hm hu hv)
    have HL1 := hd (ed1_len hm)
    have HLR := hd (edr_len hm)
    have HPB : Hid (∀ u v, u < m → v < m → 0 ≤ pE m (u + 1) (v + 1) ∧ pE m (u + 1) (v + 1) ≤ 3) := hd fun u v h1 h2 => pE_bd hm h1 h2
    have HPN : Hid (∀ w' u v, u < m → v < m → u ≠ v → Calls Try.prog 43 #[.int .i64 (m : Int), .int .i64 ((u : Int) + 1), .int .i64 ((v : Int) + 1)] w' (Ret w' (.int .i64 (pE m (u + 1) (v + 1))))) := hd fun w' u v h1 h2 h3 => i_pairNumber _ _ _ _ w' (pE_mem hm h1 h2 h3)
    have HPO := hd (fun w' => i_pairsOf m w' hm)
    have HCL := hd (fun (f : Int) (w' : World) (h : w'.cell? ⟨w.heap.size, 0, none⟩ = some (.int .i64 (m : Int))) (hf : 0 ≤ f ∧ f ≤ 20) => i_EdgeCnf1 f w.heap.size m w' h hm hf)
    generalize pM m = P at *
    have F0 : Hid (FamB W1 (W1.alloc (.cells #[.int .i64 (P + 3 * (m : Int)), .slice none 0 0] 52)) W1.heap.size 52 (P + 3 * (m : Int)) W1.heap.size (.slice none 0 0) []) :=
      hd ⟨blk_new _ rfl, ownSS_nil _ _ _ _ _, Ext.new _ _, Nat.le_refl _, Nat.le_refl _, by simp⟩
    have hge := enters_EdgeCnf1
    unfold Enters at hge
    go_enter Try.func16, Try.ntmps16
    go_wp2_with (rw [← HW1.out])
    refine (rt (i_within (m : Int) 2 3 _) HQ0).mono ?_
    rintro e w1 ⟨rfl, rfl⟩
    go_wp2_with fail
    refine (HPO.out _).mono ?_
    rintro e w1 ⟨rfl, rfl⟩
    go_wp2_with fail
    obtain ⟨wf, hwf⟩ : ∃ wf, wf = W1.alloc (.cells #[.int .i64 (P + 3 * (m : Int)), .slice none 0 0] 52) := ⟨_, rfl⟩
    rw [← hwf] at F0 ⊢
    clear hwf
    have nf := F0.out.ext.cell N0.out
    have hwa : IntKind.i64.wrap (P + (m : Int)) = P + (m : Int) := IntWalk.i64_in _ (by omega)
    have hwb : IntKind.i64.wrap (2 * (m : Int)) = 2 * (m : Int) := IntWalk.i64_in _ (by omega)
    have hwc : IntKind.i64.wrap (P + 2 * (m : Int)) = P + 2 * (m : Int) := IntWalk.i64_in _ (by omega)
    go_region_held3 (fun w' => w'.cell? ⟨w.heap.size, 0, none⟩ = some (.int .i64 (m : Int)) ∧ Ext wf w') ((refine keep_mk ?_ nf; repeat (first | assumption | exact Ext.refl _ | apply Ext.drew)))
      (first
        | (go_simp; (with_reducible refine (HCL.out P _ (by go_split_ands; assumption) (by omega)).mono ?_); rintro e wA ⟨uf, rfl, hof, hxf⟩
           have YA : Ext wf wA := Ext.trans (by go_split_ands; assumption) hxf)
        | (go_simp; (with_reducible refine (HCL.out (P + (m : Int)) _ (by go_split_ands; assumption) (by omega)).mono ?_); rintro e wB ⟨us, rfl, hos, hxs⟩
           have YB : Ext wf wB := Ext.trans (by go_split_ands; assumption) hxs)
        | (go_simp; (with_reducible refine (HCL.out (P + 2 * (m : Int)) _ (by go_split_ands; assumption) (by omega)).mono ?_); rintro e wC ⟨uc, rfl, hoc, hxc⟩
           have YC : Ext wf wC := Ext.trans (by go_split_ands; assumption) hxc))
    obtain ⟨a1, c1, e1⟩ := OwnI.some_ hof (by simp; omega)
    obtain ⟨a2, c2, e2⟩ := OwnI.some_ hos (by simp; omega)
    obtain ⟨a3, c3, e3⟩ := OwnI.some_ hoc (by simp; omega)
    rw [length_seqI] at e1 e2 e3
    subst e1
    subst e2
    subst e3
    have hszf : W1.heap.size ≤ wf.heap.size := F0.out.ext.size
    have hE : EdI W1 wC W1.heap.size (P + 3 * (m : Int)) P m (.slice (some a1) m c1) (.slice (some a2) m c2) (.slice (some a3) m c3) [] :=
      ⟨_, F0.out.on YC, own_rebase (hof.ext (hxs.trans hxc)) hszf, own_rebase (hos.ext hxc) (Nat.le_trans hszf YA.size), own_rebase hoc (Nat.le_trans hszf YB.size)⟩
    have HE := hd hE
    have HR1 : Hid (∀ w' L, EdI W1 w' W1.heap.size (P + 3 * (m : Int)) P m (.slice (some a1) m c1) (.slice (some a2) m c2) (.slice (some a3) m c3) L → RdI w' (.slice (some a1) m c1) (seqI (P + 1) m) ∧ RdI w' (.slice (some a2) m c2) (seqI (P + (m : Int) + 1) m)) := hd (by
      rintro w' L ⟨ov, -, h2, h3, -⟩
      exact ⟨h2.rd, h3.rd⟩)
    have HAT : Hid (∀ w' L k, EdI W1 w' W1.heap.size (P + 3 * (m : Int)) P m (.slice (some a1) m c1) (.slice (some a2) m c2) (.slice (some a3) m c3) L → k < m → w'.cell? (a1.add k) = some (.int .i64 (P + 1 + (k : Int))) ∧ w'.cell? (a2.add k) = some (.int .i64 (P + (m : Int) + 1 + (k : Int))) ∧ w'.cell? (a3.add k) = some (.int .i64 (P + 2 * (m : Int) + 1 + (k : Int)))) := hd fun w' L k h hk => EdI.at_ h hk
    have HNC : Hid (∀ w' L, EdI W1 w' W1.heap.size (P + 3 * (m : Int)) P m (.slice (some a1) m c1) (.slice (some a2) m c2) (.slice (some a3) m c3) L → w'.cell? ⟨w.heap.size, 0, none⟩ = some (.int .i64 (m : Int))) := hd fun w' L h => h.ext.cell N0.out
    have HLEN : (seqI (P + 1) m).length ≤ 3 ∧ (seqI (P + (m : Int) + 1) m).length ≤ 3 := by simp; omega
    clear hE hof hos hoc hxf hxs hxc YA YB YC nf F0 hge HCL HPO hwa hwb hwc
    generalize hbx : W1.heap.size = bx at *
    have hbx0 : w.heap.size + 2 ≤ bx := by omega
    clear hbx
    generalize hVV : P + 3 * (m : Int) = V at *
    go_wp2_with fail
    refine (e_add (seqI (P + 1) m) (seqI (P + 1) m) _ HE.out (HR1.out _ _ HE.out).1 (by omega) (by simp) (hd (List.Perm.refl _)) HAO1 HAO2).mono ?_
    rintro e w7 ⟨rfl, hE7⟩
    have HE7 := hd hE7
    clear hE7
    go_wp2_with fail
    refine (e_add (seqI (P + (m : Int) + 1) m) (seqI (P + (m : Int) + 1) m) _ HE7.out (HR1.out _ _ HE7.out).2 (by omega) (by simp) (hd (List.Perm.refl _)) HAO3 HAO4).mono ?_
    rintro e w8 ⟨rfl, hE8⟩
    have HE8 : Hid (EdI W1 w8 bx V P m (.slice (some a1) m c1) (.slice (some a2) m c2) (.slice (some a3) m c3) (edA m 2 ++ edB m 0)) := hd (by
      rw [HA1.out] at hE8
      rw [show edB m 0 = [] from rfl, List.append_nil]; exact hE8)
    have n8 := HNC.out _ _ HE8.out
    clear hE8
    go_wp2
    go_loopw [55] (fun vv wr => ∃ v : Nat, v ≤ m ∧ vv = .int .i64 (v : Int) ∧ EdI W1 wr bx V P m (.slice (some a1) m c1) (.slice (some a2) m c2) (.slice (some a3) m c3) (edA m 2 ++ edB m v)) (fun vv _ => m - (intOf vv).toNat)
    case atStart => exact ⟨0, by omega, rfl, HE8.out⟩
    case round =>
      clear HE8 n8
      obtain ⟨v, hv, rfl, hE⟩ := hrel
      have HE := hd hE
      clear hE
      have hl30 := (HL1.out v hv).1
      by_cases hlt : v < m
      · have hvi : (v : Int) < (m : Int) := by omega
        have HBN := hd (HBS.out v)
        have HBW := hd (HBO.out v hlt)
        obtain ⟨k1, k2, -⟩ := HAT.out _ _ v HE.out hlt
        generalize hx1 : -(P + ((v : Int) + 1)) = x1 at *
        generalize hx2 : -(P + (m : Int) + ((v : Int) + 1)) = x2 at *
        have hw1 : IntKind.i64.wrap (-(P + 1 + (v : Int))) = x1 := by rw [← hx1, show -(P + 1 + (v : Int)) = -(P + ((v : Int) + 1)) from by omega]; exact IntWalk.i64_in _ (by omega)
        have hw2 : IntKind.i64.wrap (-(P + (m : Int) + 1 + (v : Int))) = x2 := by rw [← hx2, show -(P + (m : Int) + 1 + (v : Int)) = -(P + (m : Int) + ((v : Int) + 1)) from by omega]; exact IntWalk.i64_in _ (by omega)
        have hxb : -20 ≤ x1 ∧ x1 ≤ 20 ∧ -20 ≤ x2 ∧ x2 ≤ 20 := by omega
        clear hx1 hx2
        go_wp2_with fail
        refine wp_region_sink (fun w' => (w').cell? (a1.add v) = some (.int .i64 (P + 1 + (v : Int))) ∧ (w').cell? (a2.add v) = some (.int .i64 (P + (m : Int) + 1 + (v : Int)))) 12 13 #[false, false, false, false, false, false, false, false, false, false, false, false, false] (by kernel_rfl) (by kernel_rfl) (by kernel_rfl) ?_
        have HS : (wr.drew).cell? (a1.add v) = some (.int .i64 (P + 1 + (v : Int))) ∧ (wr.drew).cell? (a2.add v) = some (.int .i64 (P + (m : Int) + 1 + (v : Int))) := ⟨k1, k2⟩
        have YA : Ext wr ((wr.alloc (.cells #[.int .i64 x1, .int .i64 x2] 3)).drew) := (Ext.new _ _).drew
        refine' ordG_take 0 (oi := _) (v := _) ?_ ?_ ?_ (Or.inl ⟨?_, ?_⟩) ?_ ?_
        rotate_left 2
        · (simp only [List.getElem?_toArray, List.getElem?_cons_zero]; rfl)
        · kernel_rfl
        · exact fun _ _ _ h => h
        · rfl
        · (intro w hSw; (try dsimp only at hSw); go_simp; (try with_reducible rfl))
        · exact HS
        (try simp only [Act.put, List.setIfInBounds_toArray, List.set_cons_zero, List.set_cons_succ])
        refine' ordG_take 1 (oi := _) (v := _) ?_ ?_ ?_ (Or.inl ⟨?_, ?_⟩) ?_ ?_
        rotate_left 2
        · (simp only [List.getElem?_toArray, List.getElem?_cons_zero, List.getElem?_cons_succ]; rfl)
        · kernel_rfl
        · exact fun _ _ _ h => h
        · rfl
        · (intro w hSw; (try dsimp only at hSw); go_simp; (try with_reducible rfl))
        · exact HS
        (try simp only [Act.put, List.setIfInBounds_toArray, List.set_cons_zero, List.set_cons_succ])
        refine' ordG_take 2 (oi := _) (v := _) ?_ ?_ ?_ (Or.inl ⟨?_, ?_⟩) ?_ ?_
        rotate_left 2
        · (simp only [List.getElem?_toArray, List.getElem?_cons_zero, List.getElem?_cons_succ]; rfl)
        · kernel_rfl
        · exact fun _ _ _ h => h
        · rfl
        · (intro w hSw; (try dsimp only at hSw); go_simp; (try with_reducible rfl))
        · exact HS
        (try simp only [Act.put, List.setIfInBounds_toArray, List.set_cons_zero, List.set_cons_succ])
        refine' ordG_take 3 (oi := _) (v := _) ?_ ?_ ?_ (Or.inl ⟨?_, ?_⟩) ?_ ?_
        rotate_left 2
        · (simp only [List.getElem?_toArray, List.getElem?_cons_zero, List.getElem?_cons_succ]; rfl)
        · kernel_rfl
        · exact fun _ _ _ h => h
        · rfl
        · (intro w hSw; (try dsimp only at hSw); go_simp; (try with_reducible rfl))
        · exact HS
        (try simp only [Act.put, List.setIfInBounds_toArray, List.set_cons_zero, List.set_cons_succ])
        refine' ordG_take 4 (oi := _) (v := _) ?_ ?_ ?_ (Or.inl ⟨?_, ?_⟩) ?_ ?_
        rotate_left 2
        · (simp only [List.getElem?_toArray, List.getElem?_cons_zero, List.getElem?_cons_succ]; rfl)
        · kernel_rfl
        · exact fun _ _ _ h => h
        · rfl
        · (intro w hSw; (try dsimp only at hSw); go_simp; (try with_reducible rfl))
        · exact HS
        (try simp only [Act.put, List.setIfInBounds_toArray, List.set_cons_zero, List.set_cons_succ])
        refine' ordG_take 5 (oi := _) (v := _) ?_ ?_ ?_ (Or.inl ⟨?_, ?_⟩) ?_ ?_
        rotate_left 2
        · (simp only [List.getElem?_toArray, List.getElem?_cons_zero, List.getElem?_cons_succ]; rfl)
        · kernel_rfl
        · exact fun _ _ _ h => h
        · rfl
        · (intro w hSw; (try dsimp only at hSw); go_simp; (try with_reducible rfl))
        · exact HS
        (try simp only [Act.put, List.setIfInBounds_toArray, List.set_cons_zero, List.set_cons_succ])
        refine' ordG_take 6 (oi := _) (v := _) ?_ ?_ ?_ (Or.inl ⟨?_, ?_⟩) ?_ ?_
        rotate_left 2
        · (simp only [List.getElem?_toArray, List.getElem?_cons_zero, List.getElem?_cons_succ]; rfl)
        · kernel_rfl
        · exact fun _ _ _ h => h
        · rfl
        · (intro w hSw; (try dsimp only at hSw); go_simp; (try with_reducible rfl))
        · exact HS
        (try simp only [Act.put, List.setIfInBounds_toArray, List.set_cons_zero, List.set_cons_succ])
        refine' ordG_take 7 (oi := _) (v := _) ?_ ?_ ?_ (Or.inl ⟨?_, ?_⟩) ?_ ?_
        rotate_left 2
        · (simp only [List.getElem?_toArray, List.getElem?_cons_zero, List.getElem?_cons_succ]; rfl)
        · kernel_rfl
        · exact fun _ _ _ h => h
        · rfl
        · (intro w hSw; (try dsimp only at hSw); go_simp; (try with_reducible rfl))
        · exact HS
        (try simp only [Act.put, List.setIfInBounds_toArray, List.set_cons_zero, List.set_cons_succ])
        refine' ordG_take 8 (oi := _) (v := _) ?_ ?_ ?_ (Or.inl ⟨?_, ?_⟩) ?_ ?_
        rotate_left 2
        · (simp only [List.getElem?_toArray, List.getElem?_cons_zero, List.getElem?_cons_succ]; rfl)
        · kernel_rfl
        · exact fun _ _ _ h => h
        · rfl
        · (intro w hSw; (try dsimp only at hSw); go_simp; (try with_reducible rfl))
        · exact HS
        (try simp only [Act.put, List.setIfInBounds_toArray, List.set_cons_zero, List.set_cons_succ])
        refine' ordG_take 9 (oi := _) (v := _) ?_ ?_ ?_ (Or.inl ⟨?_, ?_⟩) ?_ ?_
        rotate_left 2
        · (simp only [List.getElem?_toArray, List.getElem?_cons_zero, List.getElem?_cons_succ]; rfl)
        · kernel_rfl
        · exact fun _ _ _ h => h
        · rfl
        · (intro w hSw; (try dsimp only at hSw); go_simp; (try with_reducible rfl))
        · exact HS
        (try simp only [Act.put, List.setIfInBounds_toArray, List.set_cons_zero, List.set_cons_succ])
        refine' ordG_take 10 (oi := _) (v := _) ?_ ?_ ?_ (Or.inl ⟨?_, ?_⟩) ?_ ?_
        rotate_left 2
        · (simp only [List.getElem?_toArray, List.getElem?_cons_zero, List.getElem?_cons_succ]; rfl)
        · kernel_rfl
        · exact fun _ _ _ h => h
        · rfl
        · (intro w hSw; (try dsimp only at hSw); go_simp; (try with_reducible rfl))
        · exact HS
        (try simp only [Act.put, List.setIfInBounds_toArray, List.set_cons_zero, List.set_cons_succ])
        refine ordG_all (rs := [11]) (by kernel_rfl) (by simp) (by decide) ?_
        refine' ordG_cons (o := _) ?_ (fun K hK => ?_) ordG_nil
        rotate_left 1
        · (simp only [List.getElem?_toArray, List.getElem?_cons_zero, List.getElem?_cons_succ]; rfl)
        go_simp
        have HSA : ((wr.alloc (.cells #[.int .i64 x1, .int .i64 x2] 3)).drew).cell? (a1.add v) = some (.int .i64 (P + 1 + (v : Int))) ∧ ((wr.alloc (.cells #[.int .i64 x1, .int .i64 x2] 3)).drew).cell? (a2.add v) = some (.int .i64 (P + (m : Int) + 1 + (v : Int))) := ⟨YA.cell k1, YA.cell k2⟩
        refine hK.out _ _ HSA ?_
        clear hK K
        (try simp only [Act.put, List.setIfInBounds_toArray, List.set_cons_zero, List.set_cons_succ])
        refine ordG_last (by kernel_rfl) (by kernel_rfl) ?_
        refine' wpOp_step (o := _) ?_ (fun K hK => ?_)
        rotate_left 1
        · (simp only [List.getElem?_toArray, List.getElem?_cons_zero, List.getElem?_cons_succ]; rfl)
        go_simp
        go_at_call 42
        refine (e_add [x1, x2] [x1, x2] _ (HE.out.on YA) (rdI_lit (b := wr.heap.size) (xs := [x1, x2]) (blk_new (w := wr) (.cells #[.int .i64 x1, .int .i64 x2] 3) rfl) (by simp)) (by simp) (by omega) (hd (List.Perm.refl _)) HBW (hd (by intro x hx; simp at hx; rcases hx with rfl | rfl <;> omega))).mono ?_
        rintro e w9 ⟨rfl, hE9⟩
        go_simp
        refine hK _ _ ?_
        clear hK K
        (try simp only [Act.put, List.setIfInBounds_toArray, List.set_cons_zero, List.set_cons_succ])
        clear HS HSA YA k1 k2
        go_wp2
        go_roundw
        case rel => exact ⟨v + 1, by omega, by go_num, by rw [HBN.out, ← List.append_assoc]; exact hE9⟩
        case measure => simp [intOf]; omega
      · have hvi : ¬ ((v : Int) < (m : Int)) := by omega
        have HE1 : Hid (EdI W1 wr bx V P m (.slice (some a1) m c1) (.slice (some a2) m c2) (.slice (some a3) m c3) (edA m 2 ++ edB m m ++ edC m 0)) := hd (by
          have e : v = m := by omega
          have := HE.out
          rw [e] at this
          rw [show edC m 0 = [] from rfl, List.append_nil]; exact this)
        have n8 := HNC.out _ _ HE1.out
        clear HE hlt
        go_wp2
        clear n8
        go_loopw [73] (fun vv wr => ∃ u : Nat, u ≤ m ∧ vv = .int .i64 (u : Int) ∧ EdI W1 wr bx V P m (.slice (some a1) m c1) (.slice (some a2) m c2) (.slice (some a3) m c3) (edA m 2 ++ edB m m ++ edC m u)) (fun vv _ => m - (intOf vv).toNat)
        case atStart => exact ⟨0, by omega, rfl, HE1.out⟩
        case round =>
          clear HE1
          obtain ⟨u, hu, rfl, hE⟩ := hrel
          have HE := hd hE
          clear hE
          by_cases hltu : u < m
          · have hui : (u : Int) < (m : Int) := by omega
            have HCN := hd (HCS.out u)
            have HE2 : Hid (EdI W1 wr bx V P m (.slice (some a1) m c1) (.slice (some a2) m c2) (.slice (some a3) m c3) (edA m 2 ++ edB m m ++ edC m u ++ edCr m u 0)) := hd (by rw [show edCr m u 0 = [] from rfl, List.append_nil]; exact HE.out)
            have n8 := HNC.out _ _ HE2.out
            clear HE
            go_wp2
            go_loopw [77] (fun vv wr => ∃ v : Nat, v ≤ m ∧ vv = .int .i64 (v : Int) ∧ EdI W1 wr bx V P m (.slice (some a1) m c1) (.slice (some a2) m c2) (.slice (some a3) m c3) (edA m 2 ++ edB m m ++ edC m u ++ edCr m u v)) (fun vv _ => m - (intOf vv).toNat)
            case atStart => exact ⟨0, by omega, rfl, HE2.out⟩
            case round =>
              clear HE2 n8
              obtain ⟨v, hv, rfl, hE⟩ := hrel
              have HE := hd hE
              clear hE
              have hl30 := (HLR.out u v hltu hv).1
              by_cases hltv : v < m
              · have hvj : (v : Int) < (m : Int) := by omega
                have HRN := hd (HCR.out u v)
                by_cases huv : u = v
                · have huv2 : (u : Int) = (v : Int) := by omega
                  rw [if_pos huv, List.append_nil] at HRN
                  clear huv
                  go_wp2
                  go_roundw
                  case rel => exact ⟨v + 1, by omega, by go_num, by rw [HRN.out]; exact HE.out⟩
                  case measure => simp [intOf]; omega
                · have huv2 : ¬ ((u : Int) = (v : Int)) := by omega
                  rw [if_neg huv] at HRN
                  obtain ⟨k1, -, -⟩ := HAT.out _ _ u HE.out hltu
                  obtain ⟨-, k2, -⟩ := HAT.out _ _ v HE.out hltv
                  have k3 := HNC.out _ _ HE.out
                  have hpb := HPB.out u v hltu hltv
                  have hpn := fun w' => HPN.out w' u v hltu hltv huv
                  have hco := HCO.out u v hltu hltv huv
                  have hcx := HCX.out u v
                  generalize pE m (u + 1) (v + 1) = pe at *
                  generalize hx1 : -(P + ((u : Int) + 1)) = x1 at *
                  generalize hx2 : -(P + (m : Int) + ((v : Int) + 1)) = x2 at *
                  generalize edCx m u v = ys at *
                  have HPE := hd hpn
                  have HCO1 := hd hco.1
                  have HCO2 := hd hco.2.1
                  have HCO3 := hd hco.2.2
                  have hw1 : IntKind.i64.wrap (-(P + 1 + (u : Int))) = x1 := by rw [← hx1, show -(P + 1 + (u : Int)) = -(P + ((u : Int) + 1)) from by omega]; exact IntWalk.i64_in _ (by omega)
                  have hw2 : IntKind.i64.wrap (-(P + (m : Int) + 1 + (v : Int))) = x2 := by rw [← hx2, show -(P + (m : Int) + 1 + (v : Int)) = -(P + (m : Int) + ((v : Int) + 1)) from by omega]; exact IntWalk.i64_in _ (by omega)
                  have hw3 : IntKind.i64.wrap ((u : Int) + 1) = (u : Int) + 1 := IntWalk.i64_in _ (by omega)
                  have hw4 : IntKind.i64.wrap ((v : Int) + 1) = (v : Int) + 1 := IntWalk.i64_in _ (by omega)
                  clear hx1 hx2 hpn hco hcx huv
                  go_wp2_with fail
                  refine wp_region_sink (fun w' => (w').cell? (a1.add u) = some (.int .i64 (P + 1 + (u : Int))) ∧ (w').cell? (a2.add v) = some (.int .i64 (P + (m : Int) + 1 + (v : Int))) ∧ (w').cell? ⟨w.heap.size, 0, none⟩ = some (.int .i64 (m : Int))) 18 19 #[false, false, false, false, false, false, false, false, false, false, false, false, false, false, false, false, false, false, false] (by kernel_rfl) (by kernel_rfl) (by kernel_rfl) ?_
                  have HS : (wr.drew).cell? (a1.add u) = some (.int .i64 (P + 1 + (u : Int))) ∧ (wr.drew).cell? (a2.add v) = some (.int .i64 (P + (m : Int) + 1 + (v : Int))) ∧ (wr.drew).cell? ⟨w.heap.size, 0, none⟩ = some (.int .i64 (m : Int)) := ⟨k1, k2, k3⟩
                  have YA : Ext wr ((wr.alloc (.cells #[.int .i64 x1, .int .i64 x2, .int .i64 pe] 3)).drew) := (Ext.new _ _).drew
                  refine' ordG_take 0 (oi := _) (v := _) ?_ ?_ ?_ (Or.inl ⟨?_, ?_⟩) ?_ ?_
                  rotate_left 2
                  · (simp only [List.getElem?_toArray, List.getElem?_cons_zero]; rfl)
                  · kernel_rfl
                  · exact fun _ _ _ h => h
                  · rfl
                  · (intro w hSw; (try dsimp only at hSw); go_simp; (try with_reducible rfl))
                  · exact HS
                  (try simp only [Act.put, List.setIfInBounds_toArray, List.set_cons_zero, List.set_cons_succ])
                  refine' ordG_take 1 (oi := _) (v := _) ?_ ?_ ?_ (Or.inl ⟨?_, ?_⟩) ?_ ?_
                  rotate_left 2
                  · (simp only [List.getElem?_toArray, List.getElem?_cons_zero, List.getElem?_cons_succ]; rfl)
                  · kernel_rfl
                  · exact fun _ _ _ h => h
                  · rfl
                  · (intro w hSw; (try dsimp only at hSw); go_simp; (try with_reducible rfl))
                  · exact HS
                  (try simp only [Act.put, List.setIfInBounds_toArray, List.set_cons_zero, List.set_cons_succ])
                  refine' ordG_take 2 (oi := _) (v := _) ?_ ?_ ?_ (Or.inl ⟨?_, ?_⟩) ?_ ?_
                  rotate_left 2
                  · (simp only [List.getElem?_toArray, List.getElem?_cons_zero, List.getElem?_cons_succ]; rfl)
                  · kernel_rfl
                  · exact fun _ _ _ h => h
                  · rfl
                  · (intro w hSw; (try dsimp only at hSw); go_simp; (try with_reducible rfl))
                  · exact HS
                  (try simp only [Act.put, List.setIfInBounds_toArray, List.set_cons_zero, List.set_cons_succ])
                  refine' ordG_take 3 (oi := _) (v := _) ?_ ?_ ?_ (Or.inl ⟨?_, ?_⟩) ?_ ?_
                  rotate_left 2
                  · (simp only [List.getElem?_toArray, List.getElem?_cons_zero, List.getElem?_cons_succ]; rfl)
                  · kernel_rfl
                  · exact fun _ _ _ h => h
                  · rfl
                  · (intro w hSw; (try dsimp only at hSw); go_simp; (try with_reducible rfl))
                  · exact HS
                  (try simp only [Act.put, List.setIfInBounds_toArray, List.set_cons_zero, List.set_cons_succ])
                  refine' ordG_take 4 (oi := _) (v := _) ?_ ?_ ?_ (Or.inl ⟨?_, ?_⟩) ?_ ?_
                  rotate_left 2
                  · (simp only [List.getElem?_toArray, List.getElem?_cons_zero, List.getElem?_cons_succ]; rfl)
                  · kernel_rfl
                  · exact fun _ _ _ h => h
                  · rfl
                  · (intro w hSw; (try dsimp only at hSw); go_simp; (try with_reducible rfl))
                  · exact HS
                  (try simp only [Act.put, List.setIfInBounds_toArray, List.set_cons_zero, List.set_cons_succ])
                  refine' ordG_take 5 (oi := _) (v := _) ?_ ?_ ?_ (Or.inl ⟨?_, ?_⟩) ?_ ?_
                  rotate_left 2
                  · (simp only [List.getElem?_toArray, List.getElem?_cons_zero, List.getElem?_cons_succ]; rfl)
                  · kernel_rfl
                  · exact fun _ _ _ h => h
                  · rfl
                  · (intro w hSw; (try dsimp only at hSw); go_simp; (try with_reducible rfl))
                  · exact HS
                  (try simp only [Act.put, List.setIfInBounds_toArray, List.set_cons_zero, List.set_cons_succ])
                  refine' ordG_take 6 (oi := _) (v := _) ?_ ?_ ?_ (Or.inl ⟨?_, ?_⟩) ?_ ?_
                  rotate_left 2
                  · (simp only [List.getElem?_toArray, List.getElem?_cons_zero, List.getElem?_cons_succ]; rfl)
                  · kernel_rfl
                  · exact fun _ _ _ h => h
                  · rfl
                  · (intro w hSw; (try dsimp only at hSw); go_simp; (try with_reducible rfl))
                  · exact HS
                  (try simp only [Act.put, List.setIfInBounds_toArray, List.set_cons_zero, List.set_cons_succ])
                  refine' ordG_take 7 (oi := _) (v := _) ?_ ?_ ?_ (Or.inl ⟨?_, ?_⟩) ?_ ?_
                  rotate_left 2
                  · (simp only [List.getElem?_toArray, List.getElem?_cons_zero, List.getElem?_cons_succ]; rfl)
                  · kernel_rfl
                  · exact fun _ _ _ h => h
                  · rfl
                  · (intro w hSw; (try dsimp only at hSw); go_simp; (try with_reducible rfl))
                  · exact HS
                  (try simp only [Act.put, List.setIfInBounds_toArray, List.set_cons_zero, List.set_cons_succ])
                  refine' ordG_take 8 (oi := _) (v := _) ?_ ?_ ?_ (Or.inl ⟨?_, ?_⟩) ?_ ?_
                  rotate_left 2
                  · (simp only [List.getElem?_toArray, List.getElem?_cons_zero, List.getElem?_cons_succ]; rfl)
                  · kernel_rfl
                  · exact fun _ _ _ h => h
                  · rfl
                  · (intro w hSw; (try dsimp only at hSw); go_simp; (try with_reducible rfl))
                  · exact HS
                  (try simp only [Act.put, List.setIfInBounds_toArray, List.set_cons_zero, List.set_cons_succ])
                  refine' ordG_take 9 (oi := _) (v := _) ?_ ?_ ?_ (Or.inl ⟨?_, ?_⟩) ?_ ?_
                  rotate_left 2
                  · (simp only [List.getElem?_toArray, List.getElem?_cons_zero, List.getElem?_cons_succ]; rfl)
                  · kernel_rfl
                  · exact fun _ _ _ h => h
                  · rfl
                  · (intro w hSw; (try dsimp only at hSw); go_simp; (try with_reducible rfl))
                  · exact HS
                  (try simp only [Act.put, List.setIfInBounds_toArray, List.set_cons_zero, List.set_cons_succ])
                  refine' ordG_take 10 (oi := _) (v := _) ?_ ?_ ?_ (Or.inl ⟨?_, ?_⟩) ?_ ?_
                  rotate_left 2
                  · (simp only [List.getElem?_toArray, List.getElem?_cons_zero, List.getElem?_cons_succ]; rfl)
                  · kernel_rfl
                  · exact fun _ _ _ h => h
                  · rfl
                  · (intro w hSw; (try dsimp only at hSw); go_simp; (try with_reducible rfl))
                  · exact HS
                  (try simp only [Act.put, List.setIfInBounds_toArray, List.set_cons_zero, List.set_cons_succ])
                  refine' ordG_take 11 (oi := _) (v := _) ?_ ?_ ?_ (Or.inl ⟨?_, ?_⟩) ?_ ?_
                  rotate_left 2
                  · (simp only [List.getElem?_toArray, List.getElem?_cons_zero, List.getElem?_cons_succ]; rfl)
                  · kernel_rfl
                  · exact fun _ _ _ h => h
                  · rfl
                  · (intro w hSw; (try dsimp only at hSw); go_simp; (try with_reducible rfl))
                  · exact HS
                  (try simp only [Act.put, List.setIfInBounds_toArray, List.set_cons_zero, List.set_cons_succ])
                  refine' ordG_take 12 (oi := _) (v := _) ?_ ?_ ?_ (Or.inl ⟨?_, ?_⟩) ?_ ?_
                  rotate_left 2
                  · (simp only [List.getElem?_toArray, List.getElem?_cons_zero, List.getElem?_cons_succ]; rfl)
                  · kernel_rfl
                  · exact fun _ _ _ h => h
                  · rfl
                  · (intro w hSw; (try dsimp only at hSw); go_simp; (try with_reducible rfl))
                  · exact HS
                  (try simp only [Act.put, List.setIfInBounds_toArray, List.set_cons_zero, List.set_cons_succ])
                  refine' ordG_take 13 (oi := _) (v := _) ?_ ?_ ?_ (Or.inl ⟨?_, ?_⟩) ?_ ?_
                  rotate_left 2
                  · (simp only [List.getElem?_toArray, List.getElem?_cons_zero, List.getElem?_cons_succ]; rfl)
                  · kernel_rfl
                  · exact fun _ _ _ h => h
                  · rfl
                  · (intro w hSw; (try dsimp only at hSw); go_simp; (try with_reducible rfl))
                  · exact HS
                  (try simp only [Act.put, List.setIfInBounds_toArray, List.set_cons_zero, List.set_cons_succ])
                  refine' ordG_take 14 (oi := _) (v := _) ?_ ?_ ?_ (Or.inl ⟨?_, ?_⟩) ?_ ?_
                  rotate_left 2
                  · (simp only [List.getElem?_toArray, List.getElem?_cons_zero, List.getElem?_cons_succ]; rfl)
                  · kernel_rfl
                  · exact fun _ _ _ h => h
                  · rfl
                  · (intro w hSw; (try dsimp only at hSw); go_simp; (try with_reducible rfl))
                  · exact HS
                  (try simp only [Act.put, List.setIfInBounds_toArray, List.set_cons_zero, List.set_cons_succ])
                  refine' ordG_take 15 (oi := _) (v := _) ?_ ?_ ?_ (Or.inl ⟨?_, ?_⟩) ?_ ?_
                  rotate_left 2
                  · (simp only [List.getElem?_toArray, List.getElem?_cons_zero, List.getElem?_cons_succ]; rfl)
                  · kernel_rfl
                  · exact fun _ _ _ h => h
                  · rfl
                  · (intro w hSw; (try dsimp only at hSw); go_simp; (try with_reducible rfl))
                  · exact HS
                  (try simp only [Act.put, List.setIfInBounds_toArray, List.set_cons_zero, List.set_cons_succ])
                  refine ordG_all (rs := [16]) (by kernel_rfl) (by simp) (by decide) ?_
                  refine' ordG_cons (o := _) ?_ (fun K hK => ?_) ordG_nil
                  rotate_left 1
                  · (simp only [List.getElem?_toArray, List.getElem?_cons_zero, List.getElem?_cons_succ]; rfl)
                  go_simp
                  go_at_call 43
                  refine (HPE.out _).mono ?_
                  rintro e w1 ⟨rfl, rfl⟩
                  go_simp
                  refine hK.out _ _ HS ?_
                  clear hK K
                  (try simp only [Act.put, List.setIfInBounds_toArray, List.set_cons_zero, List.set_cons_succ])
                  refine ordG_all (rs := [17]) (by kernel_rfl) (by simp) (by decide) ?_
                  refine' ordG_cons (o := _) ?_ (fun K hK => ?_) ordG_nil
                  rotate_left 1
                  · (simp only [List.getElem?_toArray, List.getElem?_cons_zero, List.getElem?_cons_succ]; rfl)
                  go_simp
                  have HSA : (((wr.alloc (.cells #[.int .i64 x1, .int .i64 x2, .int .i64 pe] 3)).drew)).cell? (a1.add u) = some (.int .i64 (P + 1 + (u : Int))) ∧ (((wr.alloc (.cells #[.int .i64 x1, .int .i64 x2, .int .i64 pe] 3)).drew)).cell? (a2.add v) = some (.int .i64 (P + (m : Int) + 1 + (v : Int))) ∧ (((wr.alloc (.cells #[.int .i64 x1, .int .i64 x2, .int .i64 pe] 3)).drew)).cell? ⟨w.heap.size, 0, none⟩ = some (.int .i64 (m : Int)) := ⟨YA.cell k1, YA.cell k2, YA.cell k3⟩
                  refine hK.out _ _ HSA ?_
                  clear hK K
                  (try simp only [Act.put, List.setIfInBounds_toArray, List.set_cons_zero, List.set_cons_succ])
                  refine ordG_last (by kernel_rfl) (by kernel_rfl) ?_
                  refine' wpOp_step (o := _) ?_ (fun K hK => ?_)
                  rotate_left 1
                  · (simp only [List.getElem?_toArray, List.getElem?_cons_zero, List.getElem?_cons_succ]; rfl)
                  go_simp
                  go_at_call 42
                  refine (e_add [x1, x2, pe] ys _ (HE.out.on YA) (rdI_lit (b := wr.heap.size) (xs := [x1, x2, pe]) (blk_new (w := wr) (.cells #[.int .i64 x1, .int .i64 x2, .int .i64 pe] 3) rfl) (by simp)) (by simp) (by omega) HCO1 HCO2 HCO3).mono ?_
                  rintro e w9 ⟨rfl, hE9⟩
                  go_simp
                  refine hK _ _ ?_
                  clear hK K
                  (try simp only [Act.put, List.setIfInBounds_toArray, List.set_cons_zero, List.set_cons_succ])
                  clear HS HSA YA k1 k2 k3
                  go_wp2
                  go_roundw
                  case rel => exact ⟨v + 1, by omega, by go_num, by rw [HRN.out, ← List.append_assoc]; exact hE9⟩
                  case measure => simp [intOf]; omega
              · have hvj : ¬ ((v : Int) < (m : Int)) := by omega
                have HE4 : Hid (EdI W1 wr bx V P m (.slice (some a1) m c1) (.slice (some a2) m c2) (.slice (some a3) m c3) (edA m 2 ++ edB m m ++ edC m (u + 1))) := hd (by
                  have e : v = m := by omega
                  have := HE.out
                  rw [e] at this
                  rw [HCN.out, ← List.append_assoc]; exact this)
                clear hltv HE
                go_wp2
                go_roundw
                case rel => exact ⟨u + 1, by omega, by go_num, HE4.out⟩
                case measure => simp [intOf]; omega
          · have hui : ¬ ((u : Int) < (m : Int)) := by omega
            have HE5 : Hid (EdI W1 wr bx V P m (.slice (some a1) m c1) (.slice (some a2) m c2) (.slice (some a3) m c3) (ed1 m ++ edD m 0)) := hd (by
              have e : u = m := by omega
              have := HE.out
              rw [e] at this
              rw [HED.out.2.2, show edD m 0 = [] from rfl, List.append_nil]; exact this)
            have h1e : (ed1 m ++ edD m 0).length = (ed1 m).length := by rw [show edD m 0 = [] from rfl, List.append_nil]
            obtain ⟨ov, hF, -⟩ := HE5.out
            obtain ⟨A5, c5, rfl, -⟩ := hF.own.form
            obtain ⟨b0, b1⟩ := blk2 hF.blk
            rw [h1e] at b1
            clear hF HE hltu h1e
            generalize hK1 : (ed1 m).length = K1 at *
            have HK1 := hd hK1
            clear hK1
            go_wp2
            clear b0 b1
            go_loopw [111] (fun vv wr => ∃ v : Nat, v ≤ m ∧ vv = .int .i64 (v : Int) ∧ EdI W1 wr bx V P m (.slice (some a1) m c1) (.slice (some a2) m c2) (.slice (some a3) m c3) (ed1 m ++ edD m v)) (fun vv _ => m - (intOf vv).toNat)
            case atStart => exact ⟨0, by omega, rfl, HE5.out⟩
            case round =>
              clear HE5
              obtain ⟨v, hv, rfl, hE⟩ := hrel
              have HE := hd hE
              clear hE
              have hl30 := (HL1.out v hv).2.2.1
              by_cases hltv : v < m
              · have hvj : (v : Int) < (m : Int) := by omega
                have HDN := hd (HDS.out v)
                obtain ⟨-, -, k3⟩ := HAT.out _ _ v HE.out hltv
                rw [show P + 2 * (m : Int) + 1 + (v : Int) = P + 2 * (m : Int) + ((v : Int) + 1) from by omega] at k3
                generalize hx1 : P + 2 * (m : Int) + ((v : Int) + 1) = x1 at *
                have hxb : -20 ≤ x1 ∧ x1 ≤ 20 := by omega
                clear hx1
                go_wp2_with fail
                refine (e_add [x1] [x1] _ (HE.out.on (Ext.new _ _)) (rdI_lit (b := wr.heap.size) (xs := [x1]) (blk_new (w := wr) (.cells #[.int .i64 x1] 3) rfl) (by simp)) (by simp) (by omega) (hd (List.Perm.refl _)) (hd (List.pairwise_singleton _ _)) (hd (by intro x hx; simp at hx; subst hx; omega))).mono ?_
                rintro e w9 ⟨rfl, hE9⟩
                clear k3
                go_wp2
                go_roundw
                case rel => exact ⟨v + 1, by omega, by go_num, by rw [HDN.out, ← List.append_assoc]; exact hE9⟩
                case measure => simp [intOf]; omega
              · have hvj : ¬ ((v : Int) < (m : Int)) := by omega
                have HE6 : Hid (EdI W1 wr bx V P m (.slice (some a1) m c1) (.slice (some a2) m c2) (.slice (some a3) m c3) (ed1 m ++ edD m m ++ edE m 0)) := hd (by
                  have e : v = m := by omega
                  have := HE.out
                  rw [e] at this
                  rw [show edE m 0 = [] from rfl, List.append_nil]; exact this)
                have n8 := HNC.out _ _ HE6.out
                clear HE hltv
                go_wp2
                clear n8
                go_loopw [121] (fun vv wr => ∃ u : Nat, u ≤ m ∧ vv = .int .i64 (u : Int) ∧ EdI W1 wr bx V P m (.slice (some a1) m c1) (.slice (some a2) m c2) (.slice (some a3) m c3) (ed1 m ++ edD m m ++ edE m u)) (fun vv _ => m - (intOf vv).toNat)
                case atStart => exact ⟨0, by omega, rfl, HE6.out⟩
                case round =>
                  clear HE6
                  obtain ⟨u, hu, rfl, hE⟩ := hrel
                  have HE := hd hE
                  clear hE
                  by_cases hltu : u < m
                  · have hui : (u : Int) < (m : Int) := by omega
                    have HEN := hd (HES.out u)
                    have HE7 : Hid (EdI W1 wr bx V P m (.slice (some a1) m c1) (.slice (some a2) m c2) (.slice (some a3) m c3) (ed1 m ++ edD m m ++ edE m u ++ edEr m u (u + 1 - (u + 1)))) := hd (by rw [Nat.sub_self, show edEr m u 0 = [] from rfl, List.append_nil]; exact HE.out)
                    clear HE
                    go_wp2
                    go_loopw [18] (fun vv wr => ∃ v : Nat, u + 1 ≤ v ∧ v ≤ m ∧ vv = .int .i64 (v : Int) ∧ EdI W1 wr bx V P m (.slice (some a1) m c1) (.slice (some a2) m c2) (.slice (some a3) m c3) (ed1 m ++ edD m m ++ edE m u ++ edEr m u (v - (u + 1)))) (fun vv _ => m - (intOf vv).toNat)
                    case atStart => exact ⟨u + 1, by omega, by omega, by go_num, HE7.out⟩
                    case round =>
                      clear HE7
                      obtain ⟨v, hv1, hv, rfl, hE⟩ := hrel
                      have HE := hd hE
                      clear hE
                      have hl40 := (HLR.out u (v - (u + 1)) hltu (by omega)).2
                      have k3 := HNC.out _ _ HE.out
                      by_cases hltv : v < m
                      · have hvj : (v : Int) < (m : Int) := by omega
                        have HRN : Hid (edEr m u (v + 1 - (u + 1)) = edEr m u (v - (u + 1)) ++ [edEx m u v]) := hd (by
                          have e := HER.out u (v - (u + 1))
                          rw [show v - (u + 1) + 1 = v + 1 - (u + 1) from by omega, show u + 1 + (v - (u + 1)) = v from by omega] at e
                          exact e)
                        obtain ⟨-, -, k1⟩ := HAT.out _ _ u HE.out hltu
                        obtain ⟨-, -, k2⟩ := HAT.out _ _ v HE.out hltv
                        have hpb := HPB.out u v hltu hltv
                        have hpn := fun w' => HPN.out w' u v hltu hltv (by omega)
                        have heo := HEO.out u v (by omega) hltv
                        have hex := HEX.out u v
                        generalize pE m (u + 1) (v + 1) = pe at *
                        generalize hx0 : -pe = x0 at *
                        generalize hx1 : -(P + 2 * (m : Int) + ((u : Int) + 1)) = x1 at *
                        generalize hx2 : -(P + 2 * (m : Int) + ((v : Int) + 1)) = x2 at *
                        have HPE := hd hpn
                        rw [hex] at heo
                        have HEO1 := hd heo.1
                        have HEO2 := hd heo.2
                        have HEXX := hd hex
                        have hw0 : IntKind.i64.wrap (-pe) = x0 := by rw [← hx0]; exact IntWalk.i64_in _ (by omega)
                        have hw1 : IntKind.i64.wrap (-(P + 2 * (m : Int) + 1 + (u : Int))) = x1 := by rw [← hx1, show -(P + 2 * (m : Int) + 1 + (u : Int)) = -(P + 2 * (m : Int) + ((u : Int) + 1)) from by omega]; exact IntWalk.i64_in _ (by omega)
                        have hw2 : IntKind.i64.wrap (-(P + 2 * (m : Int) + 1 + (v : Int))) = x2 := by rw [← hx2, show -(P + 2 * (m : Int) + 1 + (v : Int)) = -(P + 2 * (m : Int) + ((v : Int) + 1)) from by omega]; exact IntWalk.i64_in _ (by omega)
                        have hw3 : IntKind.i64.wrap ((u : Int) + 1) = (u : Int) + 1 := IntWalk.i64_in _ (by omega)
                        have hw4 : IntKind.i64.wrap ((v : Int) + 1) = (v : Int) + 1 := IntWalk.i64_in _ (by omega)
                        clear hx0 hx1 hx2 hpn heo hex
                        go_wp2_with fail
                        refine wp_region_sink (fun w' => (w').cell? (a3.add u) = some (.int .i64 (P + 2 * (m : Int) + 1 + (u : Int))) ∧ (w').cell? (a3.add v) = some (.int .i64 (P + 2 * (m : Int) + 1 + (v : Int))) ∧ (w').cell? ⟨w.heap.size, 0, none⟩ = some (.int .i64 (m : Int))) 19 20 #[false, false, false, false, false, false, false, false, false, false, false, false, false, false, false, false, false, false, false, false] (by kernel_rfl) (by kernel_rfl) (by kernel_rfl) ?_
                        have HS : (wr.drew).cell? (a3.add u) = some (.int .i64 (P + 2 * (m : Int) + 1 + (u : Int))) ∧ (wr.drew).cell? (a3.add v) = some (.int .i64 (P + 2 * (m : Int) + 1 + (v : Int))) ∧ (wr.drew).cell? ⟨w.heap.size, 0, none⟩ = some (.int .i64 (m : Int)) := ⟨k1, k2, k3⟩
                        have YA : Ext wr ((wr.alloc (.cells #[.int .i64 x0, .int .i64 x1, .int .i64 x2] 3)).drew) := (Ext.new _ _).drew
                        refine' ordG_take 0 (oi := _) (v := _) ?_ ?_ ?_ (Or.inl ⟨?_, ?_⟩) ?_ ?_
                        rotate_left 2
                        · (simp only [List.getElem?_toArray, List.getElem?_cons_zero]; rfl)
                        · kernel_rfl
                        · exact fun _ _ _ h => h
                        · rfl
                        · (intro w hSw; (try dsimp only at hSw); go_simp; (try with_reducible rfl))
                        · exact HS
                        (try simp only [Act.put, List.setIfInBounds_toArray, List.set_cons_zero, List.set_cons_succ])
                        refine' ordG_take 1 (oi := _) (v := _) ?_ ?_ ?_ (Or.inl ⟨?_, ?_⟩) ?_ ?_
                        rotate_left 2
                        · (simp only [List.getElem?_toArray, List.getElem?_cons_zero, List.getElem?_cons_succ]; rfl)
                        · kernel_rfl
                        · exact fun _ _ _ h => h
                        · rfl
                        · (intro w hSw; (try dsimp only at hSw); go_simp; (try with_reducible rfl))
                        · exact HS
                        (try simp only [Act.put, List.setIfInBounds_toArray, List.set_cons_zero, List.set_cons_succ])
                        refine' ordG_take 2 (oi := _) (v := _) ?_ ?_ ?_ (Or.inl ⟨?_, ?_⟩) ?_ ?_
                        rotate_left 2
                        · (simp only [List.getElem?_toArray, List.getElem?_cons_zero, List.getElem?_cons_succ]; rfl)
                        · kernel_rfl
                        · exact fun _ _ _ h => h
                        · rfl
                        · (intro w hSw; (try dsimp only at hSw); go_simp; (try with_reducible rfl))
                        · exact HS
                        (try simp only [Act.put, List.setIfInBounds_toArray, List.set_cons_zero, List.set_cons_succ])
                        refine' ordG_take 3 (oi := _) (v := _) ?_ ?_ ?_ (Or.inl ⟨?_, ?_⟩) ?_ ?_
                        rotate_left 2
                        · (simp only [List.getElem?_toArray, List.getElem?_cons_zero, List.getElem?_cons_succ]; rfl)
                        · kernel_rfl
                        · exact fun _ _ _ h => h
                        · rfl
                        · (intro w hSw; (try dsimp only at hSw); go_simp; (try with_reducible rfl))
                        · exact HS
                        (try simp only [Act.put, List.setIfInBounds_toArray, List.set_cons_zero, List.set_cons_succ])
                        refine' ordG_take 4 (oi := _) (v := _) ?_ ?_ ?_ (Or.inl ⟨?_, ?_⟩) ?_ ?_
                        rotate_left 2
                        · (simp only [List.getElem?_toArray, List.getElem?_cons_zero, List.getElem?_cons_succ]; rfl)
                        · kernel_rfl
                        · exact fun _ _ _ h => h
                        · rfl
                        · (intro w hSw; (try dsimp only at hSw); go_simp; (try with_reducible rfl))
                        · exact HS
                        (try simp only [Act.put, List.setIfInBounds_toArray, List.set_cons_zero, List.set_cons_succ])
                        refine' ordG_take 5 (oi := _) (v := _) ?_ ?_ ?_ (Or.inl ⟨?_, ?_⟩) ?_ ?_
                        rotate_left 2
                        · (simp only [List.getElem?_toArray, List.getElem?_cons_zero, List.getElem?_cons_succ]; rfl)
                        · kernel_rfl
                        · exact fun _ _ _ h => h
                        · rfl
                        · (intro w hSw; (try dsimp only at hSw); go_simp; (try with_reducible rfl))
                        · exact HS
                        (try simp only [Act.put, List.setIfInBounds_toArray, List.set_cons_zero, List.set_cons_succ])
                        refine' ordG_take 8 (oi := _) (v := _) ?_ ?_ ?_ (Or.inl ⟨?_, ?_⟩) ?_ ?_
                        rotate_left 2
                        · (simp only [List.getElem?_toArray, List.getElem?_cons_zero, List.getElem?_cons_succ]; rfl)
                        · kernel_rfl
                        · exact fun _ _ _ h => h
                        · rfl
                        · (intro w hSw; (try dsimp only at hSw); go_simp; (try with_reducible rfl))
                        · exact HS
                        (try simp only [Act.put, List.setIfInBounds_toArray, List.set_cons_zero, List.set_cons_succ])
                        refine' ordG_take 9 (oi := _) (v := _) ?_ ?_ ?_ (Or.inl ⟨?_, ?_⟩) ?_ ?_
                        rotate_left 2
                        · (simp only [List.getElem?_toArray, List.getElem?_cons_zero, List.getElem?_cons_succ]; rfl)
                        · kernel_rfl
                        · exact fun _ _ _ h => h
                        · rfl
                        · (intro w hSw; (try dsimp only at hSw); go_simp; (try with_reducible rfl))
                        · exact HS
                        (try simp only [Act.put, List.setIfInBounds_toArray, List.set_cons_zero, List.set_cons_succ])
                        refine' ordG_take 10 (oi := _) (v := _) ?_ ?_ ?_ (Or.inl ⟨?_, ?_⟩) ?_ ?_
                        rotate_left 2
                        · (simp only [List.getElem?_toArray, List.getElem?_cons_zero, List.getElem?_cons_succ]; rfl)
                        · kernel_rfl
                        · exact fun _ _ _ h => h
                        · rfl
                        · (intro w hSw; (try dsimp only at hSw); go_simp; (try with_reducible rfl))
                        · exact HS
                        (try simp only [Act.put, List.setIfInBounds_toArray, List.set_cons_zero, List.set_cons_succ])
                        refine' ordG_take 11 (oi := _) (v := _) ?_ ?_ ?_ (Or.inl ⟨?_, ?_⟩) ?_ ?_
                        rotate_left 2
                        · (simp only [List.getElem?_toArray, List.getElem?_cons_zero, List.getElem?_cons_succ]; rfl)
                        · kernel_rfl
                        · exact fun _ _ _ h => h
                        · rfl
                        · (intro w hSw; (try dsimp only at hSw); go_simp; (try with_reducible rfl))
                        · exact HS
                        (try simp only [Act.put, List.setIfInBounds_toArray, List.set_cons_zero, List.set_cons_succ])
                        refine' ordG_take 12 (oi := _) (v := _) ?_ ?_ ?_ (Or.inl ⟨?_, ?_⟩) ?_ ?_
                        rotate_left 2
                        · (simp only [List.getElem?_toArray, List.getElem?_cons_zero, List.getElem?_cons_succ]; rfl)
                        · kernel_rfl
                        · exact fun _ _ _ h => h
                        · rfl
                        · (intro w hSw; (try dsimp only at hSw); go_simp; (try with_reducible rfl))
                        · exact HS
                        (try simp only [Act.put, List.setIfInBounds_toArray, List.set_cons_zero, List.set_cons_succ])
                        refine' ordG_take 13 (oi := _) (v := _) ?_ ?_ ?_ (Or.inl ⟨?_, ?_⟩) ?_ ?_
                        rotate_left 2
                        · (simp only [List.getElem?_toArray, List.getElem?_cons_zero, List.getElem?_cons_succ]; rfl)
                        · kernel_rfl
                        · exact fun _ _ _ h => h
                        · rfl
                        · (intro w hSw; (try dsimp only at hSw); go_simp; (try with_reducible rfl))
                        · exact HS
                        (try simp only [Act.put, List.setIfInBounds_toArray, List.set_cons_zero, List.set_cons_succ])
                        refine' ordG_take 14 (oi := _) (v := _) ?_ ?_ ?_ (Or.inl ⟨?_, ?_⟩) ?_ ?_
                        rotate_left 2
                        · (simp only [List.getElem?_toArray, List.getElem?_cons_zero, List.getElem?_cons_succ]; rfl)
                        · kernel_rfl
                        · exact fun _ _ _ h => h
                        · rfl
                        · (intro w hSw; (try dsimp only at hSw); go_simp; (try with_reducible rfl))
                        · exact HS
                        (try simp only [Act.put, List.setIfInBounds_toArray, List.set_cons_zero, List.set_cons_succ])
                        refine' ordG_take 15 (oi := _) (v := _) ?_ ?_ ?_ (Or.inl ⟨?_, ?_⟩) ?_ ?_
                        rotate_left 2
                        · (simp only [List.getElem?_toArray, List.getElem?_cons_zero, List.getElem?_cons_succ]; rfl)
                        · kernel_rfl
                        · exact fun _ _ _ h => h
                        · rfl
                        · (intro w hSw; (try dsimp only at hSw); go_simp; (try with_reducible rfl))
                        · exact HS
                        (try simp only [Act.put, List.setIfInBounds_toArray, List.set_cons_zero, List.set_cons_succ])
                        refine' ordG_take 16 (oi := _) (v := _) ?_ ?_ ?_ (Or.inl ⟨?_, ?_⟩) ?_ ?_
                        rotate_left 2
                        · (simp only [List.getElem?_toArray, List.getElem?_cons_zero, List.getElem?_cons_succ]; rfl)
                        · kernel_rfl
                        · exact fun _ _ _ h => h
                        · rfl
                        · (intro w hSw; (try dsimp only at hSw); go_simp; (try with_reducible rfl))
                        · exact HS
                        (try simp only [Act.put, List.setIfInBounds_toArray, List.set_cons_zero, List.set_cons_succ])
                        refine' ordG_take 17 (oi := _) (v := _) ?_ ?_ ?_ (Or.inl ⟨?_, ?_⟩) ?_ ?_
                        rotate_left 2
                        · (simp only [List.getElem?_toArray, List.getElem?_cons_zero, List.getElem?_cons_succ]; rfl)
                        · kernel_rfl
                        · exact fun _ _ _ h => h
                        · rfl
                        · (intro w hSw; (try dsimp only at hSw); go_simp; (try with_reducible rfl))
                        · exact HS
                        (try simp only [Act.put, List.setIfInBounds_toArray, List.set_cons_zero, List.set_cons_succ])
                        refine ordG_all (rs := [6]) (by kernel_rfl) (by simp) (by decide) ?_
                        refine' ordG_cons (o := _) ?_ (fun K hK => ?_) ordG_nil
                        rotate_left 1
                        · (simp only [List.getElem?_toArray, List.getElem?_cons_zero, List.getElem?_cons_succ]; rfl)
                        go_simp
                        go_at_call 43
                        refine (HPE.out _).mono ?_
                        rintro e w1 ⟨rfl, rfl⟩
                        go_simp
                        refine hK.out _ _ HS ?_
                        clear hK K
                        (try simp only [Act.put, List.setIfInBounds_toArray, List.set_cons_zero, List.set_cons_succ])
                        refine' ordG_take 7 (oi := _) (v := _) ?_ ?_ ?_ (Or.inl ⟨?_, ?_⟩) ?_ ?_
                        rotate_left 2
                        · (simp only [List.getElem?_toArray, List.getElem?_cons_zero, List.getElem?_cons_succ]; rfl)
                        · kernel_rfl
                        · exact fun _ _ _ h => h
                        · rfl
                        · (intro w hSw; (try dsimp only at hSw); go_simp; (try with_reducible rfl))
                        · exact HS
                        (try simp only [Act.put, List.setIfInBounds_toArray, List.set_cons_zero, List.set_cons_succ])
                        refine ordG_all (rs := [18]) (by kernel_rfl) (by simp) (by decide) ?_
                        refine' ordG_cons (o := _) ?_ (fun K hK => ?_) ordG_nil
                        rotate_left 1
                        · (simp only [List.getElem?_toArray, List.getElem?_cons_zero, List.getElem?_cons_succ]; rfl)
                        go_simp
                        have HSA : (((wr.alloc (.cells #[.int .i64 x0, .int .i64 x1, .int .i64 x2] 3)).drew)).cell? (a3.add u) = some (.int .i64 (P + 2 * (m : Int) + 1 + (u : Int))) ∧ (((wr.alloc (.cells #[.int .i64 x0, .int .i64 x1, .int .i64 x2] 3)).drew)).cell? (a3.add v) = some (.int .i64 (P + 2 * (m : Int) + 1 + (v : Int))) ∧ (((wr.alloc (.cells #[.int .i64 x0, .int .i64 x1, .int .i64 x2] 3)).drew)).cell? ⟨w.heap.size, 0, none⟩ = some (.int .i64 (m : Int)) := ⟨YA.cell k1, YA.cell k2, YA.cell k3⟩
                        refine hK.out _ _ HSA ?_
                        clear hK K
                        (try simp only [Act.put, List.setIfInBounds_toArray, List.set_cons_zero, List.set_cons_succ])
                        refine ordG_last (by kernel_rfl) (by kernel_rfl) ?_
                        refine' wpOp_step (o := _) ?_ (fun K hK => ?_)
                        rotate_left 1
                        · (simp only [List.getElem?_toArray, List.getElem?_cons_zero, List.getElem?_cons_succ]; rfl)
                        go_simp
                        go_at_call 42
                        refine (e_add [x0, x1, x2] [x0, x1, x2] _ (HE.out.on YA) (rdI_lit (b := wr.heap.size) (xs := [x0, x1, x2]) (blk_new (w := wr) (.cells #[.int .i64 x0, .int .i64 x1, .int .i64 x2] 3) rfl) (by simp)) (by simp) (by omega) (hd (List.Perm.refl _)) HEO1 HEO2).mono ?_
                        rintro e w9 ⟨rfl, hE9⟩
                        go_simp
                        refine hK _ _ ?_
                        clear hK K
                        (try simp only [Act.put, List.setIfInBounds_toArray, List.set_cons_zero, List.set_cons_succ])
                        clear HS HSA YA k1 k2 k3
                        go_wp2
                        go_roundw
                        case rel => exact ⟨v + 1, by omega, by omega, by go_num, by rw [HRN.out, HEXX.out, ← List.append_assoc]; exact hE9⟩
                        case measure => simp [intOf]; omega
                      · have hvj : ¬ ((v : Int) < (m : Int)) := by omega
                        have HE8 : Hid (EdI W1 wr bx V P m (.slice (some a1) m c1) (.slice (some a2) m c2) (.slice (some a3) m c3) (ed1 m ++ edD m m ++ edE m (u + 1))) := hd (by
                          have e : v = m := by omega
                          have := HE.out
                          rw [e] at this
                          rw [HEN.out, ← List.append_assoc]; exact this)
                        clear hltv HE
                        go_wp2
                        go_roundw
                        case rel => exact ⟨u + 1, by omega, by go_num, HE8.out⟩
                        case measure => simp [intOf]; omega
                  · have hui : ¬ ((u : Int) < (m : Int)) := by omega
                    have HE9 : Hid (EdI W1 wr bx V P m (.slice (some a1) m c1) (.slice (some a2) m c2) (.slice (some a3) m c3) (edF m).cs) := hd (by
                      have e : u = m := by omega
                      have := HE.out
                      rw [e] at this
                      rw [HED.out.1]; exact this)
                    clear hltu HE
                    obtain ⟨ov, hF, -⟩ := HE9.out
                    obtain ⟨A9, c9, rfl, h91, h92⟩ := hF.own.form
                    have HF9 := hd hF
                    clear hF
                    have XF := hd HF9.out.ext
                    have B0 := hd (XF.out.heap R0.out)
                    go_wp2_with fail
                    refine (i_cnf W1 wr bx V bx _ _ HF9.out HGD.out HBD.out).mono ?_
                    rintro e w3 ⟨rfl, hx3⟩
                    generalize hL : (edF m).cs.length = L at *
                    have hx4 := hx3.alloc (.cells #[.int .i64 V, .slice A9 L c9] 29)
                    have B3 := hd (hx4.heap B0.out)
                    have OW := hd ((HF9.out.own.ext hx4).hi_le hx4.size)
                    have X3 := hd (X0.out.trans (XF.out.trans hx4))
                    have hbw : w.heap.size ≤ bx := by omega
                    obtain ⟨k0, k1⟩ := blk2 B3.out
                    obtain ⟨k2, k3⟩ := blk2f B3.out
                    have k4 := blk_lt B3.out
                    have HC := hd (blk2_set (x' := .int .i64 V) (y' := .slice A9 L c9) B3.out)
                    have hg3 := grown_set (grown_set (grown_refl (w3.alloc (.cells #[.int .i64 V, .slice A9 L c9] 29)) (some (w.heap.size + 1))) 0 (.int .i64 V)) 1 (.slice A9 L c9)
                    have OW2 := hd (((OW.out.box B3.out (by decide) (by decide) hg3).hi_le hg3.size).lo_le (lo' := w.heap.size) hbw)
                    have X4 := hd (ext_set (i := 1) (ext_set (i := 0) X3.out (Nat.le_succ _) (.int .i64 V)) (Nat.le_succ _) (.slice A9 L c9))
                    have HKE : Hid (edK m = (K1 : Int)) := hd HED.out.2.1
                    have HFN : Hid ((edF m).n = V) := hd (by rw [HED.out.1])
                    have HUE : Hid (Value.agg #[.int .i64 V, .slice A9 L c9] = .agg #[.int .i64 (edF m).n, .slice A9 L c9]) := hd (by rw [HFN.out])
                    clear hg3 hL hx3 hx4
                    go_wp2
                    obtain ⟨p0, p1⟩ := blk2 HC.out
                    exact bodyPost_ret (v := .tuple #[.agg #[.int .i64 V, .slice A9 L c9], .int .i64 (K1 : Int), .bool true]) (by simp [results, Try.results16, go_sem, p0, p1]) rfl (by rw [HV.out.1, HV.out.2.1, HV.out.2.2, HKE.out]; exact ⟨_, rfl, ⟨_, HUE.out, OW2.out⟩, X4.out⟩)
end Go.Proofs.Ytgkifandgacncaa
