import Derived.Test.YtbdcomkbpapcaaaDefS
import Derived.Test.YtbdcomkbpapcaaaMg8
import Derived.Test.YtbdcomkbpapcaaaSink
/-
  DefiningCnf: the reference's side. Conditions: none but a text's length.
-/

namespace Go.Proofs.Ytbdcomkbpapcaaa
open Go.RowKit Go.Sort Seed
theorem s_l22Defining (oth : List Bs) (ov : Value) (y : Fm) (v : Int) (w : World) (h : Rd_StringS w ov oth) (hl : oth.length ≤ 1048576) (hw : WfF y = true) (hy : (txt y).length ≤ 80) (hnl : letT (txt y) = false) (hv : 1 ≤ v ∧ v ≤ 500)
    (hx : kA y ≠ [] → 1 ≤ kidN oth (kA y) ∧ kidN oth (kA y) < v) (hz : kB y ≠ [] → 1 ≤ kidN oth (kB y) ∧ kidN oth (kB y) < v) :
    Calls Try.prog 56 #[ov, .string (strF y), .int .i64 v] w (RetRo w (outD y v (kidN oth (kA y)) (kidN oth (kB y)))) := by
  cases y with
  | leaf c =>
    have hc : c = 48 ∨ c = 49 := by
      have h1 : isLf c = true := hw
      have h2 : letB c = false := hnl
      unfold isLf at h1
      unfold letB at h2
      rw [h2, Bool.or_false, Bool.or_eq_true, beq_iff_eq, beq_iff_eq] at h1
      exact h1
    rcases hc with rfl | rfl
    · exact s_def_zero oth ov v w hv
    · exact s_def_one oth ov v w hv
  | neg a => exact s_def_neg oth ov a v w h hl hw hy hv (hx (txt_ne a))
  | bin o a b =>
    have ho : o = 38 ∨ o = 124 ∨ o = 62 := by
      have h1 : (isOp o && (WfF a && WfF b)) = true := hw
      rw [Bool.and_eq_true] at h1
      have h2 := h1.1
      unfold isOp at h2
      simp only [Bool.or_eq_true, beq_iff_eq] at h2
      rcases h2 with (h | h) | h
      · exact .inl h
      · exact .inr (.inl h)
      · exact .inr (.inr h)
    rcases ho with rfl | rfl | rfl
    · exact s_def_and oth ov a b v w h hl hw hy hv (hx (txt_ne a)) (hz (txt_ne b))
    · exact s_def_or oth ov a b v w h hl hw hy hv (hx (txt_ne a)) (hz (txt_ne b))
    · exact s_def_imp oth ov a b v w h hl hw hy hv (hx (txt_ne a)) (hz (txt_ne b))
theorem clsD_eq (oth : List Bs) (t : Bs) (v : Int) : clsD oth t v = outD (treeB t) v (kidN oth (kA (treeB t))) (kidN oth (kB (treeB t))) := rfl
theorem outD_len (y : Fm) (v x z : Int) : (outD y v x z).length ≤ 3 := by
  unfold outD
  refine Nat.le_trans (List.length_filterMap_le _ _) ?_
  unfold rawD
  cases y with
  | leaf c => simp only; split <;> simp
  | neg a => simp
  | bin o a b => simp only; split
                 · simp
                 · split <;> simp
theorem allD_len (oth : List Bs) : ∀ k, (allD oth k).length ≤ 3 * k
  | 0 => by simp [allD]
  | k + 1 => by
    have h1 := allD_len oth k
    have h2 := outD_len (treeB (oth.getD k [])) ((k : Int) + 7) (kidN oth (kA (treeB (oth.getD k [])))) (kidN oth (kB (treeB (oth.getD k []))))
    rw [allD_succ, List.length_append, clsD_eq]
    omega
/-- What the reference asks for at the i-th of the other parts. -/
theorem oth_at {f : Fm} (hw : WfF f = true) {i : Nat} (h : i < (othB f).length) :
    txt (treeB (othB f)[i]) = (othB f)[i] ∧ WfF (treeB (othB f)[i]) = true ∧ (txt (treeB (othB f)[i])).length ≤ (txt f).length ∧ letT (othB f)[i] = false ∧
    (kA (treeB (othB f)[i]) ≠ [] → 1 ≤ kidN (othB f) (kA (treeB (othB f)[i])) ∧ kidN (othB f) (kA (treeB (othB f)[i])) < (i : Int) + 7) ∧
    (kB (treeB (othB f)[i]) ≠ [] → 1 ≤ kidN (othB f) (kB (treeB (othB f)[i])) ∧ kidN (othB f) (kB (treeB (othB f)[i])) < (i : Int) + 7) := by
  have hm : (othB f)[i] ∈ othB f := List.getElem_mem h
  obtain ⟨hp, hlt⟩ := List.mem_filter.1 hm
  obtain ⟨e1, e2, e3⟩ := partsT_mem hw hp
  have hlf : letT (othB f)[i] = false := by simpa using hlt
  obtain ⟨k, hk, hke⟩ := List.mem_iff_getElem.1 hp
  have hS : othB f = othK f k ++ [(partsB f)[k]] ++ ((partsB f).drop (k + 1)).filter fun t => !letT t := by
    have := othK_pre f (k + 1)
    rw [othK_succ hk, hke, hlf] at this
    rw [hke]
    simpa using this
  have hN : (othK f k ++ [(partsB f)[k]]).Nodup := by
    have := othK_nodup f (k + 1)
    rw [othK_succ hk, hke, hlf] at this
    rw [hke]
    simpa using this
  have hlen : (othK f k).length = i := by
    have hnd : (othB f).Nodup := by rw [← othK_all]; exact othK_nodup _ _
    have hkl : (othK f k).length < (othB f).length := by rw [hS]; simp
    have hat : (othB f)[(othK f k).length] = (othB f)[i] := by
      rw [← hke]
      have : (othB f)[(othK f k).length]? = some (partsB f)[k] := by rw [hS, List.append_assoc]; simp
      rw [List.getElem?_eq_getElem hkl] at this
      exact Option.some.inj this
    exact (List.getElem_inj hnd).1 hat
  obtain ⟨ka, kb⟩ := kid_part hw hp
  rw [← hke] at ka kb
  have q1 := (kid_eq hk [(partsB f)[k]] ka hN ⟨_, hS⟩ (by intro x hx; obtain rfl := List.mem_singleton.1 hx; rw [hke]; exact hlf)).2
  have q2 := (kid_eq hk [(partsB f)[k]] kb hN ⟨_, hS⟩ (by intro x hx; obtain rfl := List.mem_singleton.1 hx; rw [hke]; exact hlf)).2
  rw [hke, hlen] at q1 q2
  exact ⟨e1, e2, e3, hlf, q1, q2⟩
theorem defV_zero {w w' : World} {s : ByteArray} (h : defB s = false) (hx : Ext w w') : RetN w (defV s) (defB s) (.returned (.tuple #[.agg #[.int .i64 0, .slice none 0 0], .bool false])) w' := by
  refine RetN.zero (hd ?_) hx h
  unfold defB at h
  unfold defV
  cases hg : goodF s with
  | none => rfl
  | some f =>
    rw [hg] at h
    simp only [decide_eq_false_iff_not] at h
    simp only
    rw [if_neg h]
set_option maxRecDepth 100000 in
set_option maxHeartbeats 6400000 in
theorem s_DefiningCnf (s : ByteArray) (w : World) (_ : s.size ≤ 1048576) : Calls Try.prog 29 #[.string s] w (RetN w (defV s) (defB s)) := by
  have HG := hd (fun w' => s_l22Good s w')
  obtain ⟨W1, hW1⟩ : ∃ W1, W1 = w.alloc (.cells #[.int .i64 0, .slice none 0 0] 46) := ⟨_, rfl⟩
  have X0 : Hid (Ext w W1) := hd (by rw [hW1]; exact Ext.new _ _)
  have R0 : Hid (W1.heap[w.heap.size]? = some (.cells #[.int .i64 0, .slice none 0 0] 46)) := hd (by rw [hW1]; exact blk_new _ rfl)
  have HW1 := hd hW1
  have hz0 : w.heap.size + 1 = W1.heap.size := by rw [hW1]; simp
  clear hW1
  cases hg : goodF s with
  | none =>
    have HF : Hid (isF s = false) := hd (by unfold isF; rw [hg]; rfl)
    have HDB : Hid (defB s = false) := hd (by unfold defB; rw [hg])
    obtain ⟨p0, p1⟩ := blk2 R0.out
    obtain ⟨f0, f1⟩ := blk2f R0.out
    have f2 := blk_lt R0.out
    have X4 := hd (ext_set (i := 1) (ext_set (i := 0) X0.out (g := w.heap.size) (Nat.le_refl _) (.int .i64 0)) (g := w.heap.size) (Nat.le_refl _) (.slice none 0 0))
    clear hg
    go_enter Try.func29, Try.ntmps29
    go_wp2_with fail
    rw [← HW1.out]
    refine (rt (HG.out _) HF).mono ?_
    rintro e w1 ⟨rfl, rfl⟩
    go_wp2
    exact bodyPost_ret (v := .tuple #[.agg #[.int .i64 0, .slice none 0 0], .bool false]) (by simp [results, Try.results29, go_sem, p0, p1]) rfl (defV_zero HDB.out (by first | exact X0.out | exact X4.out))
  | some f =>
    have HF : Hid (isF s = true) := hd (by unfold isF; rw [hg]; rfl)
    have HDB : Hid (defB s = decide ((othB f).length ≤ 6)) := hd (by unfold defB; rw [hg])
    have HDV : Hid ((othB f).length ≤ 6 → defV s = defF f) := hd fun h => by unfold defV; rw [hg]; simp only; rw [if_pos h]
    obtain ⟨h1, h2, h3⟩ := goodF_iff.1 hg
    obtain rfl := strF_of h2
    have hl : (txt f).length ≤ 80 := by rw [strF_size] at h1; exact h1
    have hsl := subs_len f
    have hpl := partsB_len f
    have HAN := hd (allL_nil f)
    have HOS := hd (fun k (hk : k < (partsB f).length) => othK_succ hk)
    have HOL := hd (othK_len f)
    have HOA := hd (othK_all f)
    have HO0 : Hid (othK f 0 = []) := hd (by simp [othK])
    have HAT := hd (fun i (hi : i < (othB f).length) => oth_at h3 hi)
    have HAD := hd (allD_succ (othB f))
    have HALN := hd (allD_len (othB f))
    have HTX : Hid ((strF f).data.toList = txt f) := hd (strF_list f)
    have HALL := hd (fun (w' : World) (lo : Nat) (v : Value) (h : OwnS w' lo v []) (hlo : lo ≤ w'.heap.size) => s_l22All f h3 hl [] v w' lo h hlo (by simp; omega))
    have HW3 := hd h3
    clear hg h1 h2 h3
    have A0 : Hid (OwnS (W1.alloc (.cells #[] 9)) W1.heap.size (.slice (some ⟨W1.heap.size, 0, none⟩) 0 0) []) := hd (ownS_at (heap_alloc_new _ _) (Nat.le_refl _))
    go_enter Try.func29, Try.ntmps29
    go_wp2_with fail
    rw [← HW1.out]
    refine (rt (HG.out _) HF).mono ?_
    rintro e w1 ⟨rfl, rfl⟩
    go_wp2_with fail
    refine (HALL.out _ _ _ A0.out (by simp)).mono ?_
    rintro e w2 ⟨u2, rfl, hu2, hx2⟩
    rw [HAN.out] at hu2
    obtain ⟨A5, c5, rfl, h51, h52, ha5⟩ := Rd_StringS.form (own_rd hu2)
    have XA := hd ((Ext.new W1 (.cells #[] 9)).trans hx2)
    have E0 : Hid (OwnS (w2.alloc (.cells #[] 9)) w2.heap.size (.slice (some ⟨w2.heap.size, 0, none⟩) 0 0) (othK f 0)) := hd (by rw [HO0.out]; exact ownS_at (heap_alloc_new _ _) (Nat.le_refl _))
    clear hu2 hx2 A0 HALL
    go_wp2
    go_loopw [5, 6] (fun ov i wr => ∃ k : Nat, k ≤ (partsB f).length ∧ i = .int .i64 (k : Int) ∧ OwnS wr w2.heap.size ov (othK f k) ∧ Ext w2 wr) (fun _ i _ => (partsB f).length - (intOf i).toNat)
    case atStart => exact ⟨0, by omega, rfl, E0.out, Ext.new _ _⟩
    case round =>
      clear E0
      obtain ⟨k, hk, rfl, ho, hx⟩ := hrel
      have HO := hd ho
      have HX := hd hx
      have hol := HOL.out k
      clear ho hx
      by_cases hlt : k < (partsB f).length
      · obtain ⟨a5, rfl, hc5⟩ := Rd_StringS.at_ ha5 hlt
        replace hc5 := HX.out.cell hc5
        have HOK := hd (HOS.out k hlt)
        obtain ⟨tb, htb⟩ : ∃ tb : ByteArray, ⟨(partsB f)[k].toArray⟩ = tb := ⟨_, rfl⟩
        have HTB : Hid (tb.data.toList = (partsB f)[k]) := hd (by rw [← htb])
        have hle := hd (fun w' => s_l22Letter tb w')
        rw [HTB.out] at hle
        rw [htb] at hc5
        clear htb
        generalize (partsB f)[k] = t5 at *
        have HLE := hd hle.out
        clear hle
        cases hlet : letT t5 with
        | true =>
          rw [hlet] at HOK HLE
          clear hlet
          go_wp2_with fail
          refine (HLE.out _).mono ?_
          rintro e w3 ⟨rfl, rfl⟩
          go_wp2
          go_roundw
          case rel => exact ⟨k + 1, by omega, by go_num, by rw [HOK.out]; simpa using HO.out, HX.out⟩
          case measure => simp [intOf]; omega
        | false =>
          rw [hlet] at HOK HLE
          clear hlet
          go_wp2_with fail
          refine (HLE.out _).mono ?_
          rintro e w3 ⟨rfl, rfl⟩
          have hws := HX.out.size
          go_wp2_with (at_builtin; refine appS wr (nb := wr.heap.size) HO.out rfl _ _ rfl tb (by rfl) (by rfl) rfl (by omega) hws ?_; intro v' w9 ho1 hg1 _)
          go_roundw
          case rel => exact ⟨k + 1, by omega, by go_num, by rw [HOK.out]; rw [HTB.out] at ho1; exact ho1, ext_app HX.out hg1 (fun g hg => (own_blocks HO.out g hg).1)⟩
          case measure => simp [intOf]; omega
      · have hkn : ¬ ((k : Int) < ((partsB f).length : Int)) := by omega
        have HOO : Hid (OwnS wr w2.heap.size _ (othB f)) := hd (by
          have e : k = (partsB f).length := by omega
          have := HO.out
          rw [e, HOA.out] at this
          exact this)
        have hol2 : (othB f).length ≤ 80 := by
          have := HOL.out (partsB f).length
          rw [HOA.out] at this
          omega
        obtain ⟨Ao, co, rfl, ho1, ho2, hao⟩ := Rd_StringS.form (own_rd HOO.out)
        have XW := hd (XA.out.trans HX.out)
        clear HO hlt hol HOO
        by_cases h6 : (othB f).length ≤ 6
        · have h6i : ¬ (((othB f).length : Int) > 6) := by omega
          have h6j : ¬ ((6 : Int) < ((othB f).length : Int)) := by omega
          have HDV6 := hd (HDV.out h6)
          have HDB6 : Hid (defB (strF f) = true) := hd (by rw [HDB.out]; exact decide_eq_true h6)
          have HDF : Hid (defF f = ⟨6 + ((othB f).length : Int), allD (othB f) (othB f).length ++ [[varN (othB f) (txt f)]]⟩) := hd rfl
          obtain ⟨W2, rfl⟩ : ∃ W2 : World, W2 = wr := ⟨_, rfl⟩
          have HD0 : Hid (allD (othB f) 0 = []) := hd rfl
          have HVR := hd (fun (w' : World) (hx : Ext W2 w') => s_l22Var (othB f) _ (strF f) w' (Rd.ext hao.out hx) (by omega))
          rw [HTX.out] at HVR
          have HDE := hd (fun (w' : World) (y : Fm) (v : Int) (hx : Ext W2 w') => s_l22Defining (othB f) _ y v w' (Rd.ext hao.out hx) (by omega))
          have HCD := hd (clsD_eq (othB f))
          have HVN : Hid (-1000 ≤ varN (othB f) (txt f) ∧ varN (othB f) (txt f) ≤ 1000) := hd (by
            unfold varN
            split
            · rename_i hh; have := letN_bd hh; omega
            · by_cases hm : txt f ∈ othB f
              · have := idxN_bd (othB f) (txt f) 7 hm; omega
              · have e := idxN_app (othB f) [] (txt f) 7
                rw [List.append_nil, if_neg hm] at e
                rw [e]
                show -1000 ≤ (0 : Int) ∧ (0 : Int) ≤ 1000
                decide)
          generalize hoth : othB f = oth at *
          clear hoth
          have F0 : Hid (FamB W2 ((W2.alloc (.cells #[] 57)).alloc (.cells #[.int .i64 (6 + (oth.length : Int)), .slice (some ⟨W2.heap.size, 0, none⟩) 0 0] 46)) (W2.heap.size + 1) 46 (6 + (oth.length : Int)) W2.heap.size (.slice (some ⟨W2.heap.size, 0, none⟩) 0 0) (allD oth 0)) :=
            hd ⟨blk_new _ (by simp), by rw [HD0.out]; exact ownSS_emp0 (heap_n2 _ _ _) (Nat.le_refl _), (Ext.new _ _).alloc _, by omega, Nat.le_refl _, by simp; omega⟩
          go_wp2
          generalize hbx : W2.heap.size + 1 = bx at *
          have hbx0 : W2.heap.size ≤ bx := by omega
          have hW2 := XW.out.size
          clear hbx
          go_loopw [8] (fun i wr => ∃ (k : Nat) (ov : Value), k ≤ oth.length ∧ i = .int .i64 (k : Int) ∧ FamB W2 wr bx 46 (6 + (oth.length : Int)) W2.heap.size ov (allD oth k)) (fun i _ => oth.length - (intOf i).toNat)
          case atStart => exact ⟨0, _, by omega, rfl, F0.out⟩
          case round =>
            clear F0
            obtain ⟨k7, ov, hk7, rfl, hF⟩ := hrel
            have HF := hd hF
            clear hF
            have hl18 := HALN.out k7
            obtain ⟨c0, c1⟩ := blk2 HF.out.blk
            by_cases hlt7 : k7 < oth.length
            · have hk8 : (k7 : Int) < (oth.length : Int) := by omega
              obtain ⟨a7, rfl, hc7⟩ := Rd_StringS.at_ hao hlt7
              have HC7 := hd (fun (w' : World) (hx : Ext W2 w') => hx.cell hc7)
              obtain ⟨e1, e2, e3, e4, e5, e6⟩ := HAT.out k7 hlt7
              have HADK := hd (HAD.out k7)
              rw [show oth.getD k7 [] = oth[k7] from by simp [List.getD, hlt7], HCD.out] at HADK
              obtain ⟨tb, htb⟩ : ∃ tb : ByteArray, ⟨oth[k7].toArray⟩ = tb := ⟨_, rfl⟩
              have hts : strF (treeB oth[k7]) = tb := by
                rw [← htb]
                unfold strF
                rw [e1]
              rw [← e1] at e4
              have HD7 := hd (fun (w' : World) (hx : Ext W2 w') => HDE.out w' (treeB oth[k7]) ((k7 : Int) + 7) hx e2 (by omega) e4 (by omega) e5 e6)
              rw [hts] at HD7
              rw [htb] at hc7 HC7
              clear hts htb e1 e2 e3 e4 e5 e6 hc7
              generalize outD (treeB oth[k7]) ((k7 : Int) + 7) (kidN oth (kA (treeB oth[k7]))) (kidN oth (kB (treeB oth[k7]))) = rs at *
              have hr3 : (allD oth (k7 + 1)).length ≤ 21 := by have := HALN.out (k7 + 1); omega
              rw [HADK.out, List.length_append] at hr3
              have k2 := HC7.out wr HF.out.ext
              have hw7 : IntKind.i64.wrap ((k7 : Int) + 7) = (k7 : Int) + 7 := IntWalk.i64_in _ (by omega)
              go_wp2_with fail
              refine wp_region_sink (fun w' => (w').cell? ⟨bx, 1, none⟩ = some ov ∧ (w').cell? (a7.add k7) = some (.string tb)) 12 13 #[false, false, false, false, false, false, false, false, false, false, false, false, false] (by kernel_rfl) (by kernel_rfl) (by kernel_rfl) ?_
              have HS : (wr.drew).cell? ⟨bx, 1, none⟩ = some ov ∧ (wr.drew).cell? (a7.add k7) = some (.string tb) := ⟨c1, k2⟩
              refine' ordG_take 0 (oi := _) (v := _) ?_ ?_ ?_ (Or.inl ⟨?_, ?_⟩) ?_ ?_
              rotate_left 2
              · (simp only [List.getElem?_toArray, List.getElem?_cons_zero]; rfl)
              · kernel_rfl
              · exact fun _ _ _ h => h
              · rfl
              · (intro w hSw; (try dsimp only at hSw); go_simp; (try with_reducible rfl))
              · exact HS
              (try simp only [Act.put, List.setIfInBounds_toArray, List.set_cons_zero, List.set_cons_succ])
              refine' ordG_take 1 (oi := _) (v := _) ?_ ?_ ?_ (Or.inl ⟨?_, ?_⟩) ?_ ?_
              rotate_left 2
              · (simp only [List.getElem?_toArray, List.getElem?_cons_zero, List.getElem?_cons_succ]; rfl)
              · kernel_rfl
              · exact fun _ _ _ h => h
              · rfl
              · (intro w hSw; (try dsimp only at hSw); go_simp; (try with_reducible rfl))
              · exact HS
              (try simp only [Act.put, List.setIfInBounds_toArray, List.set_cons_zero, List.set_cons_succ])
              refine' ordG_take 2 (oi := _) (v := _) ?_ ?_ ?_ (Or.inl ⟨?_, ?_⟩) ?_ ?_
              rotate_left 2
              · (simp only [List.getElem?_toArray, List.getElem?_cons_zero, List.getElem?_cons_succ]; rfl)
              · kernel_rfl
              · exact fun _ _ _ h => h
              · rfl
              · (intro w hSw; (try dsimp only at hSw); go_simp; (try with_reducible rfl))
              · exact HS
              (try simp only [Act.put, List.setIfInBounds_toArray, List.set_cons_zero, List.set_cons_succ])
              refine' ordG_take 3 (oi := _) (v := _) ?_ ?_ ?_ (Or.inl ⟨?_, ?_⟩) ?_ ?_
              rotate_left 2
              · (simp only [List.getElem?_toArray, List.getElem?_cons_zero, List.getElem?_cons_succ]; rfl)
              · kernel_rfl
              · exact fun _ _ _ h => h
              · rfl
              · (intro w hSw; (try dsimp only at hSw); go_simp; (try with_reducible rfl))
              · exact HS
              (try simp only [Act.put, List.setIfInBounds_toArray, List.set_cons_zero, List.set_cons_succ])
              refine' ordG_take 4 (oi := _) (v := _) ?_ ?_ ?_ (Or.inl ⟨?_, ?_⟩) ?_ ?_
              rotate_left 2
              · (simp only [List.getElem?_toArray, List.getElem?_cons_zero, List.getElem?_cons_succ]; rfl)
              · kernel_rfl
              · exact fun _ _ _ h => h
              · rfl
              · (intro w hSw; (try dsimp only at hSw); go_simp; (try with_reducible rfl))
              · exact HS
              (try simp only [Act.put, List.setIfInBounds_toArray, List.set_cons_zero, List.set_cons_succ])
              refine' ordG_take 5 (oi := _) (v := _) ?_ ?_ ?_ (Or.inl ⟨?_, ?_⟩) ?_ ?_
              rotate_left 2
              · (simp only [List.getElem?_toArray, List.getElem?_cons_zero, List.getElem?_cons_succ]; rfl)
              · kernel_rfl
              · exact fun _ _ _ h => h
              · rfl
              · (intro w hSw; (try dsimp only at hSw); go_simp; (try with_reducible rfl))
              · exact HS
              (try simp only [Act.put, List.setIfInBounds_toArray, List.set_cons_zero, List.set_cons_succ])
              refine' ordG_take 6 (oi := _) (v := _) ?_ ?_ ?_ (Or.inl ⟨?_, ?_⟩) ?_ ?_
              rotate_left 2
              · (simp only [List.getElem?_toArray, List.getElem?_cons_zero, List.getElem?_cons_succ]; rfl)
              · kernel_rfl
              · exact fun _ _ _ h => h
              · rfl
              · (intro w hSw; (try dsimp only at hSw); go_simp; (try with_reducible rfl))
              · exact HS
              (try simp only [Act.put, List.setIfInBounds_toArray, List.set_cons_zero, List.set_cons_succ])
              refine' ordG_take 7 (oi := _) (v := _) ?_ ?_ ?_ (Or.inl ⟨?_, ?_⟩) ?_ ?_
              rotate_left 2
              · (simp only [List.getElem?_toArray, List.getElem?_cons_zero, List.getElem?_cons_succ]; rfl)
              · kernel_rfl
              · exact fun _ _ _ h => h
              · rfl
              · (intro w hSw; (try dsimp only at hSw); go_simp; (try with_reducible rfl))
              · exact HS
              (try simp only [Act.put, List.setIfInBounds_toArray, List.set_cons_zero, List.set_cons_succ])
              refine' ordG_take 8 (oi := _) (v := _) ?_ ?_ ?_ (Or.inl ⟨?_, ?_⟩) ?_ ?_
              rotate_left 2
              · (simp only [List.getElem?_toArray, List.getElem?_cons_zero, List.getElem?_cons_succ]; rfl)
              · kernel_rfl
              · exact fun _ _ _ h => h
              · rfl
              · (intro w hSw; (try dsimp only at hSw); go_simp; (try with_reducible rfl))
              · exact HS
              (try simp only [Act.put, List.setIfInBounds_toArray, List.set_cons_zero, List.set_cons_succ])
              refine ordG_all (rs := [9]) (by kernel_rfl) (by simp) (by decide) ?_
              refine' ordG_cons (o := _) ?_ (fun K hK => ?_) ordG_nil
              rotate_left 1
              · (simp only [List.getElem?_toArray, List.getElem?_cons_zero, List.getElem?_cons_succ]; rfl)
              go_simp
              go_at_call 56
              refine (HD7.out _ (HF.out.ext.drew)).mono ?_
              rintro e w5 ⟨u, zs, rfl, ho5, hz5, hs5, hx5⟩
              have X5 : Hid (Ext wr w5) := hd (Ext.trans (Ext.refl _).drew hx5)
              obtain ⟨A8, c8, rfl, -⟩ := OutZ.form ho5
              have HZ5 := hd hz5
              have HO5 := hd ho5
              have HM5 := hd hs5
              have hzl : zs.length = rs.length := by rw [← hs5, List.length_map]
              have hz60 : zs.length ≤ 21 := by omega
              clear hz5 ho5 hs5 hx5 hzl
              have HS5 : (w5).cell? ⟨bx, 1, none⟩ = some ov ∧ (w5).cell? (a7.add k7) = some (.string tb) := ⟨X5.out.cell c1, HC7.out _ (HF.out.ext.trans X5.out)⟩
              go_simp
              refine hK.out _ _ HS5 ?_
              clear hK K
              (try simp only [Act.put, List.setIfInBounds_toArray, List.set_cons_zero, List.set_cons_succ])
              refine ordG_all (rs := [10]) (by kernel_rfl) (by simp) (by decide) ?_
              refine' ordG_cons (o := _) ?_ (fun K hK => ?_) ordG_nil
              rotate_left 1
              · (simp only [List.getElem?_toArray, List.getElem?_cons_zero, List.getElem?_cons_succ]; rfl)
              refine stepFY HF.out (by decide) (by decide) X5.out HZ5.out (by simp) (own_rd HO5.out) rfl (.tmp 52) (.tmp 60) rfl (by rfl) (by rfl) (by omega) ?_
              intro L A9 c9 w9 _ hb9 HP X9
              obtain ⟨q0, q1⟩ := blk2 hb9
              obtain ⟨q2, q3⟩ := blk2f hb9
              have q4 := blk_lt hb9
              have HS9 : (w9).cell? ⟨bx, 1, none⟩ = some ov ∧ (w9).cell? (a7.add k7) = some (.string tb) := ⟨q1, HC7.out _ X9⟩
              refine hK.out _ _ HS9 ?_
              clear hK K
              (try simp only [Act.put, List.setIfInBounds_toArray, List.set_cons_zero, List.set_cons_succ])
              refine' ordG_take 11 (oi := _) (v := _) ?_ ?_ ?_ (Or.inl ⟨?_, ?_⟩) ?_ ?_
              rotate_left 2
              · (simp only [List.getElem?_toArray, List.getElem?_cons_zero, List.getElem?_cons_succ]; rfl)
              · kernel_rfl
              · exact fun _ _ _ h => h
              · rfl
              · (intro w hSw; (try dsimp only at hSw); go_simp; (try with_reducible rfl))
              · exact HS9
              (try simp only [Act.put, List.setIfInBounds_toArray, List.set_cons_zero, List.set_cons_succ])
              refine ordG_last (by kernel_rfl) (by kernel_rfl) ?_
              refine' wpOp_step (o := _) ?_ (fun K hK => ?_)
              rotate_left 1
              · (simp only [List.getElem?_toArray, List.getElem?_cons_zero, List.getElem?_cons_succ]; rfl)
              go_simp
              refine hK _ _ ?_
              clear hK K
              (try simp only [Act.put, List.setIfInBounds_toArray, List.set_cons_zero, List.set_cons_succ])
              clear HS HS5 HS9 c0 c1 q0 q1 q2 q3 k2
              go_wp2
              go_roundw
              case rel => exact ⟨k7 + 1, _, by omega, by go_num, by rw [HADK.out, ← HM5.out]; exact HP.out⟩
              case measure => simp [intOf]; omega
            · have hk8 : ¬ ((k7 : Int) < (oth.length : Int)) := by omega
              have HF7 : Hid (FamB W2 wr bx 46 (6 + (oth.length : Int)) W2.heap.size ov (allD oth oth.length)) := hd (by
                have e : k7 = oth.length := by omega
                have := HF.out
                rw [e] at this
                exact this)
              have hl19 : (allD oth oth.length).length ≤ 18 := by have := HALN.out oth.length; omega
              have HV7 := hd (fun (w' : World) (hx : Ext W2 w') => HVR.out w' hx)
              have hvb := HVN.out
              generalize varN oth (txt f) = vn at *
              clear hlt7 HF
              have YA : Ext wr ((wr.alloc (.cells #[.int .i64 vn] 3)).drew) := (Ext.new _ _).drew
              have YB : Ext wr (((wr.alloc (.cells #[.int .i64 vn] 3)).alloc (.cells #[.slice (some ⟨wr.heap.size, 0, none⟩) 1 1] 57)).drew) := ((Ext.new _ _).alloc _).drew
              go_wp2_with fail
              refine wp_region_sink (fun w' => (w').cell? ⟨bx, 1, none⟩ = some ov) 9 10 #[false, false, false, false, false, false, false, false, false, false] (by kernel_rfl) (by kernel_rfl) (by kernel_rfl) ?_
              have HS : (wr.drew).cell? ⟨bx, 1, none⟩ = some ov := c1
              refine' ordG_take 0 (oi := _) (v := _) ?_ ?_ ?_ (Or.inl ⟨?_, ?_⟩) ?_ ?_
              rotate_left 2
              · (simp only [List.getElem?_toArray, List.getElem?_cons_zero]; rfl)
              · kernel_rfl
              · exact fun _ _ _ h => h
              · rfl
              · (intro w hSw; (try dsimp only at hSw); go_simp; (try with_reducible rfl))
              · exact HS
              (try simp only [Act.put, List.setIfInBounds_toArray, List.set_cons_zero, List.set_cons_succ])
              refine' ordG_take 1 (oi := _) (v := _) ?_ ?_ ?_ (Or.inl ⟨?_, ?_⟩) ?_ ?_
              rotate_left 2
              · (simp only [List.getElem?_toArray, List.getElem?_cons_zero, List.getElem?_cons_succ]; rfl)
              · kernel_rfl
              · exact fun _ _ _ h => h
              · rfl
              · (intro w hSw; (try dsimp only at hSw); go_simp; (try with_reducible rfl))
              · exact HS
              (try simp only [Act.put, List.setIfInBounds_toArray, List.set_cons_zero, List.set_cons_succ])
              refine' ordG_take 2 (oi := _) (v := _) ?_ ?_ ?_ (Or.inl ⟨?_, ?_⟩) ?_ ?_
              rotate_left 2
              · (simp only [List.getElem?_toArray, List.getElem?_cons_zero, List.getElem?_cons_succ]; rfl)
              · kernel_rfl
              · exact fun _ _ _ h => h
              · rfl
              · (intro w hSw; (try dsimp only at hSw); go_simp; (try with_reducible rfl))
              · exact HS
              (try simp only [Act.put, List.setIfInBounds_toArray, List.set_cons_zero, List.set_cons_succ])
              refine' ordG_take 3 (oi := _) (v := _) ?_ ?_ ?_ (Or.inl ⟨?_, ?_⟩) ?_ ?_
              rotate_left 2
              · (simp only [List.getElem?_toArray, List.getElem?_cons_zero, List.getElem?_cons_succ]; rfl)
              · kernel_rfl
              · exact fun _ _ _ h => h
              · rfl
              · (intro w hSw; (try dsimp only at hSw); go_simp; (try with_reducible rfl))
              · exact HS
              (try simp only [Act.put, List.setIfInBounds_toArray, List.set_cons_zero, List.set_cons_succ])
              refine ordG_all (rs := [4]) (by kernel_rfl) (by simp) (by decide) ?_
              refine' ordG_cons (o := _) ?_ (fun K hK => ?_) ordG_nil
              rotate_left 1
              · (simp only [List.getElem?_toArray, List.getElem?_cons_zero, List.getElem?_cons_succ]; rfl)
              go_simp
              go_at_call 57
              refine (HV7.out _ (HF7.out.ext.drew)).mono ?_
              rintro e w5 ⟨rfl, rfl⟩
              go_simp
              refine hK.out _ _ HS ?_
              clear hK K
              (try simp only [Act.put, List.setIfInBounds_toArray, List.set_cons_zero, List.set_cons_succ])
              refine ordG_all (rs := [5]) (by kernel_rfl) (by simp) (by decide) ?_
              refine' ordG_cons (o := _) ?_ (fun K hK => ?_) ordG_nil
              rotate_left 1
              · (simp only [List.getElem?_toArray, List.getElem?_cons_zero, List.getElem?_cons_succ]; rfl)
              go_simp
              have HSA : (((wr.alloc (.cells #[.int .i64 vn] 3)).drew)).cell? ⟨bx, 1, none⟩ = some ov := YA.cell c1
              refine hK.out _ _ HSA ?_
              clear hK K
              (try simp only [Act.put, List.setIfInBounds_toArray, List.set_cons_zero, List.set_cons_succ])
              refine ordG_all (rs := [6]) (by kernel_rfl) (by simp) (by decide) ?_
              refine' ordG_cons (o := _) ?_ (fun K hK => ?_) ordG_nil
              rotate_left 1
              · (simp only [List.getElem?_toArray, List.getElem?_cons_zero, List.getElem?_cons_succ]; rfl)
              go_simp
              have HSB : ((((wr.alloc (.cells #[.int .i64 vn] 3)).alloc (.cells #[.slice (some ⟨wr.heap.size, 0, none⟩) 1 1] 57)).drew)).cell? ⟨bx, 1, none⟩ = some ov := YB.cell c1
              refine hK.out _ _ HSB ?_
              clear hK K
              (try simp only [Act.put, List.setIfInBounds_toArray, List.set_cons_zero, List.set_cons_succ])
              refine ordG_all (rs := [7]) (by kernel_rfl) (by simp) (by decide) ?_
              refine' ordG_cons (o := _) ?_ (fun K hK => ?_) ordG_nil
              rotate_left 1
              · (simp only [List.getElem?_toArray, List.getElem?_cons_zero, List.getElem?_cons_succ]; rfl)
              refine stepFY (zs := [(.slice (some ⟨wr.heap.size, 0, none⟩) 1 1, [vn])]) HF7.out (by decide) (by decide) YB ((((RowsZ.one (ownI_litY wr vn (Nat.le_refl _))).ext (Ext.new _ _)).ext (Ext.refl _).drew).hi_size) (Nat.le_refl _) (rdZ_at (b := wr.heap.size + 1) (us := [.slice (some ⟨wr.heap.size, 0, none⟩) 1 1]) (blk_new _ (by simp)) (by simp)) rfl (.tmp 64) (.tmp 69) rfl (by rfl) (by rfl) (by simp; omega) ?_
              intro L A9 c9 w9 hL9 hb9 HP X9
              obtain ⟨q0, q1⟩ := blk2 hb9
              obtain ⟨q2, q3⟩ := blk2f hb9
              have q4 := blk_lt hb9
              have HS9 : (w9).cell? ⟨bx, 1, none⟩ = some ov := q1
              refine hK.out _ _ HS9 ?_
              clear hK K
              (try simp only [Act.put, List.setIfInBounds_toArray, List.set_cons_zero, List.set_cons_succ])
              refine' ordG_take 8 (oi := _) (v := _) ?_ ?_ ?_ (Or.inl ⟨?_, ?_⟩) ?_ ?_
              rotate_left 2
              · (simp only [List.getElem?_toArray, List.getElem?_cons_zero, List.getElem?_cons_succ]; rfl)
              · kernel_rfl
              · exact fun _ _ _ h => h
              · rfl
              · (intro w hSw; (try dsimp only at hSw); go_simp; (try with_reducible rfl))
              · exact HS9
              (try simp only [Act.put, List.setIfInBounds_toArray, List.set_cons_zero, List.set_cons_succ])
              refine ordG_last (by kernel_rfl) (by kernel_rfl) ?_
              refine' wpOp_step (o := _) ?_ (fun K hK => ?_)
              rotate_left 1
              · (simp only [List.getElem?_toArray, List.getElem?_cons_zero, List.getElem?_cons_succ]; rfl)
              go_simp
              refine hK _ _ ?_
              clear hK K
              (try simp only [Act.put, List.setIfInBounds_toArray, List.set_cons_zero, List.set_cons_succ])
              clear HS HSA HSB HS9 YA YB c0 c1 q0 q1 q2 q3
              have HF9 := HP
              have XF := hd (XW.out.trans HF9.out.ext)
              have B3 := hd (XF.out.heap R0.out)
              have OW := hd HF9.out.own
              have X3 := hd (X0.out.trans XF.out)
              obtain ⟨m0, m1⟩ := blk2 HF9.out.blk
              obtain ⟨p0, p1⟩ := blk2 B3.out
              obtain ⟨p2, p3⟩ := blk2f B3.out
              have p4 := blk_lt B3.out
              generalize w9.setCell ⟨bx, 1, none⟩ (.slice A9 L c9) = wz at *
              generalize hV : 6 + (oth.length : Int) = V at *
              have HC := hd (blk2_set (x' := .int .i64 V) (y' := .slice A9 L c9) B3.out)
              have hg3 := grown_set (grown_set (grown_refl wz (some w.heap.size)) 0 (.int .i64 V)) 1 (.slice A9 L c9)
              have OW2 := hd (((OW.out.box B3.out (by decide) (by decide) hg3).hi_le hg3.size).lo_le (lo' := w.heap.size) (by omega))
              have X4 := hd (ext_set (i := 1) (ext_set (i := 0) X3.out (Nat.le_refl _) (.int .i64 V)) (Nat.le_refl _) (.slice A9 L c9))
              clear hg3 q4
              go_wp2
              obtain ⟨q0, q1⟩ := blk2 HC.out
              exact bodyPost_ret (v := .tuple #[.agg #[.int .i64 V, .slice A9 L c9], .bool true]) (by simp [results, Try.results29, go_sem, q0, q1]) rfl (by rw [HDB6.out, HDV6.out, HDF.out]; exact ⟨_, rfl, ⟨_, rfl, OW2.out⟩, X4.out⟩)
        · have h6i : ((othB f).length : Int) > 6 := by omega
          have HDB6 : Hid (defB (strF f) = false) := hd (by rw [HDB.out]; exact decide_eq_false h6)
          have B3 := hd (XW.out.heap R0.out)
          obtain ⟨p0, p1⟩ := blk2 B3.out
          obtain ⟨f0, f1⟩ := blk2f B3.out
          have f2 := blk_lt B3.out
          have X5 := hd (X0.out.trans XW.out)
          have X4 := hd (ext_set (i := 1) (ext_set (i := 0) X5.out (g := w.heap.size) (Nat.le_refl _) (.int .i64 0)) (g := w.heap.size) (Nat.le_refl _) (.slice none 0 0))
          have HC := hd (blk2_set (x' := .int .i64 0) (y' := .slice none 0 0) B3.out)
          clear h6
          go_wp2
          obtain ⟨q0, q1⟩ := blk2 HC.out
          exact bodyPost_ret (v := .tuple #[.agg #[.int .i64 0, .slice none 0 0], .bool false]) (by first | (simp [results, Try.results29, go_sem, q0, q1]; done) | (simp [results, Try.results29, go_sem, p0, p1]; done)) rfl (defV_zero HDB6.out (by first | exact X4.out | exact X5.out))
end Go.Proofs.Ytbdcomkbpapcaaa
