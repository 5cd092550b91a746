/-
  Pebbling, the reference's search, walked. Condition: a valid graph, sizes up to ten.
-/
import Derived.Test.YtapgpjhogdmjbaaPebT
import Derived.Test.YtapgpjhogdmjbaaSink
namespace Go.Proofs.Ytapgpjhogdmjbaa
open Go.RowKit Peb
theorem ownI_blk {w : World} {b g n c : Nat} {e : TypeId} {xs : List Int} (h : OwnI w b e (.slice (some ⟨g, 0, none⟩) n c) xs) : b ≤ g ∧ g + 1 ≤ w.heap.size := own_blocks h g rfl
theorem ownI_ownP {w : World} {base : Nat} {e : TypeId} {v : Value} {xs : List Int} (h : OwnI w base e v xs) : Own w base e 1 v xs.length (ints xs) := h
def RetFar (w : World) (E : Nat → Nat → Bool) (D : Nat → Bool) (M : Nat) : Ending → World → Prop := fun e w' => ∃ g F, e = .returned (.slice (some ⟨g, 0, none⟩) M M) ∧ OwnI w' w.heap.size 3 (.slice (some ⟨g, 0, none⟩) M M) F ∧ FinD E D M F ∧ Ext w w'
set_option maxRecDepth 100000 in
set_option maxHeartbeats 6400000 in
theorem s_l14Far (ds : List (List Int)) (s : Nat) (rev : Bool) (v : Value) (w : World) (h : Rd_Dag w v ds) (hg : goodD ds = true) (hb : Bd_Dag ds) (hs : s ≤ 10) :
    Calls Try.prog 25 #[v, .int .i64 (s : Int), .bool rev] w (RetFar w (eP ds ds.length rev s) (dP ds.length rev s) (2 ^ ds.length)) := by
  have HV := hd h
  obtain ⟨vc, rfl, hC⟩ := h
  obtain ⟨A, c, rfl, -, -, -⟩ := hC.form
  obtain ⟨hn1, hn10, hdag⟩ := goodD_dag hg
  have hM10 : 2 ^ ds.length ≤ 1024 := by have := Nat.pow_le_pow_right (n := 2) (by decide) hn10; simpa using this
  have hM1 : 1 ≤ 2 ^ ds.length := Nat.pow_pos (by decide)
  have hwM := wrap_pow (m := ds.length) (by omega)
  have HDN := hd (fun (w' : World) (hx : Ext w w') P hP => s_l14Done ds P rev _ w' (HV.out.ext hx) hn1 hn10 hP)
  have HCN := hd (fun (w' : World) P hP => s_l14Count P w' hP)
  have HMV := hd (fun (w' : World) (hx : Ext w w') P x kd hx' hP hk => s_l14Move ds P x kd rev _ w' (HV.out.ext hx) hx' hn10 (hd fun p hp => by have := hdag x hx' p hp; omega) (by rw [List.getD_eq_getElem?_getD, List.getElem?_eq_getElem hx']; exact hb.2.1 _ (List.getElem_mem hx')) hP hk)
  have HFL : Hid (∀ q x, q < 2 ^ ds.length → x < ds.length → q ^^^ 2 ^ x < 2 ^ ds.length) := hd fun q x hq hx => flip_lt hq hx
  have HBX : Hid (∀ w' : World, Ext (w.alloc (.cells #[.slice A ds.length c] 28)) w' → w'.cell? ⟨w.heap.size, 0, none⟩ = some (.slice A ds.length c)) := hd fun w' hx => cell_ofD (hx.heap (heap_n1 w _))
  have XB := hd (Ext.new w (.cells #[.slice A ds.length c] 28))
  have HN0 : Hid (ds.length = ds.length) := hd rfl
  clear hC hg hdag hb
  generalize hNN : ds.length = n at *
  have HNN := hd hNN
  generalize hMM : 2 ^ n = M at *
  have HMM := hd hMM
  clear hNN hMM
  go_enter Try.func25, Try.ntmps25
  go_wp2_with (at_make; refine mkI (n := M) _ rfl _ _ rfl (by first | rfl | (show Value.int .i64 _ = _; rw [hwM])) (by first | rfl | (show Value.int .i64 _ = _; rw [hwM])) (by omega) rfl ?_; intro w2 hown2 hx2)
  rw [World.size_alloc] at hown2
  have hsW : (w.alloc (.cells #[.slice A n c] 28)).heap.size = w.heap.size + 1 := World.size_alloc _ _
  generalize w.alloc (.cells #[.slice A n c] 28) = W0 at *
  generalize hgg : w.heap.size + 1 = g at *
  have HSW := hd hsW
  have HGG := hd hgg
  have hsz2 : g + 1 ≤ w2.heap.size := (ownI_blk hown2).2
  have HF0 : Hid (Fr W0 (w2.alloc (.cells #[] 3)) g M (List.replicate M 0) (.slice (some ⟨w2.heap.size, 0, none⟩) 0 0) []) := hd ⟨hx2.alloc _, own_ext (own_rebase hown2 (by omega)) (Ext.new _ _), List.length_replicate, ownI_emp' rfl hsz2⟩
  clear hown2 hx2 hsW hgg
  go_wp2
  go_loopw [10, 9] (fun pv lv wr => ∃ (p : Nat) (F : List Int) (ln : List Nat), p ≤ M ∧ pv = .int .i64 (p : Int) ∧ Fr W0 wr g M F lv ln ∧ Hid (ln = (List.range p).filter (dP n rev s)) ∧ Hid (∀ i, i < p → fa F i = if dP n rev s i then 0 else -1)) (fun pv _ _ => M - (intOf pv).toNat)
  case atStart => exact ⟨0, _, [], by omega, rfl, HF0.out, hd rfl, hd (fun i hi => by omega)⟩
  case round =>
    clear HF0
    obtain ⟨p, F, ln, hp, rfl, hF, HLN, HFA⟩ := hrel
    have HFR := hd hF
    by_cases hlt : p < M
    · have hplt : (p : Int) < (M : Int) := by omega
      have hp0 : (0 : Int) ≤ (p : Int) := by omega
      have hlnl : ln.length ≤ 1024 := by
        have h1 := List.length_filter_le (dP n rev s) (List.range p)
        rw [List.length_range] at h1
        rw [HLN.out]
        omega
      have k0 := HBX.out _ hF.x
      have hne : ¬ g = w.heap.size := by have := HGG.out; omega
      obtain ⟨⟨u1, a1⟩, a2, hF1⟩ := hF.put hlt (-1)
      obtain ⟨⟨u2, b1⟩, b2, -⟩ := hF1.put hlt 0
      have HF1 := hd hF1
      have HL2 : Hid ((List.range (p + 1)).filter (dP n rev s) = ln ++ (if dP n rev s p then [p] else [])) := hd (by
        rw [List.range_succ, List.filter_append, HLN.out]
        congr 1
        cases h : dP n rev s p
        · rw [List.filter_cons_of_neg (by rw [h]; decide)]; rfl
        · rw [List.filter_cons_of_pos h]; rfl)
      have hpF : p < F.length := by rw [hF.fl]; exact hlt
      have HDV := hd (HDN.out _ (XB.out.trans hF1.x) p (by omega))
      have HDP : Hid (dP n rev s p = (goalB n rev p && decide (cnt p ≤ s))) := hd rfl
      have HFS : Hid (∀ i, i < p + 1 → fa (F.set p (-1)) i = if i = p then -1 else if dP n rev s i then 0 else -1) := hd fun i hi => by
        rw [fa_set hpF]
        by_cases e : i = p
        · rw [if_pos e, if_pos e]
        · rw [if_neg e, if_neg e]; exact HFA.out i (by omega)
      clear hF hF1
      obtain ⟨q1, hq1⟩ : ∃ q, goalB n rev p = q := ⟨_, rfl⟩
      rw [hq1] at HDV HDP
      clear hq1
      cases q1
      · have HD0 : Hid (dP n rev s p = false) := hd (by rw [HDP.out]; rfl)
        have HL3 : Hid (ln = (List.range (p + 1)).filter (dP n rev s)) := hd (by rw [HL2.out, HD0.out]; simp)
        have HF3 : Hid (∀ i, i < p + 1 → fa (F.set p (-1)) i = if dP n rev s i then 0 else -1) := hd fun i hi => by
          rw [HFS.out i hi]
          by_cases e : i = p
          · subst e; rw [if_pos rfl, HD0.out]; rfl
          · rw [if_neg e]
        go_wp2_with fail
        refine HDV.out.mono ?_
        rintro e w5 ⟨rfl, hx5⟩
        have HF5 := hd (HF1.out.ext hx5)
        clear hx5
        go_wp2
        go_roundw
        case rel => exact ⟨p + 1, _, ln, by omega, by go_num, HF5.out, HL3, HF3⟩
        case measure => simp [intOf]; omega
      · by_cases hcs : cnt p ≤ s
        · have hcs' : ((cnt p : Nat) : Int) ≤ (s : Int) := by omega
          have HD1 : Hid (dP n rev s p = true) := hd (by rw [HDP.out, decide_eq_true hcs]; rfl)
          have HL3 : Hid (ln ++ [p] = (List.range (p + 1)).filter (dP n rev s)) := hd (by rw [HL2.out, HD1.out, if_pos rfl])
          have HF3 : Hid (∀ i, i < p + 1 → fa ((F.set p (-1)).set p 0) i = if dP n rev s i then 0 else -1) := hd fun i hi => by
            rw [fa_set (by rw [List.length_set]; exact hpF)]
            by_cases e : i = p
            · subst e; rw [if_pos rfl, HD1.out]; rfl
            · rw [if_neg e, HFS.out i hi, if_neg e]
          have HC := hd (fun w' => HCN.out w' p (by omega))
          clear hcs
          generalize cnt p = cp at *
          go_wp2_with fail
          refine HDV.out.mono ?_
          rintro e w5 ⟨rfl, hx5⟩
          have HF5 := hd (HF1.out.ext hx5)
          obtain ⟨⟨u3, d1⟩, d2, hF6⟩ := HF5.out.put hlt 0
          have HF6 := hd hF6
          have hsz6 : g + 1 ≤ (w5.setCell ⟨g, p, none⟩ (.int .i64 0)).heap.size := (ownI_blk hF6.f).2
          clear hx5 hF6
          go_wp2_with fail
          refine (HC.out _).mono ?_
          rintro e w6 ⟨rfl, rfl⟩
          go_wp2_with (at_builtin; refine appI (w5.setCell ⟨g, p, none⟩ (.int .i64 0)) HF6.out.l rfl _ _ rfl (p : Int) (by rfl) (by first | rfl | (show Value.slice _ _ _ = Value.slice _ _ _; rw [size_setCell])) (by rw [natI_len]; omega) hsz6 ?_; intro v7 w7 ho7 hg7 hb7)
          go_roundw
          case rel => exact ⟨p + 1, _, ln ++ [p], by omega, by go_num, HF6.out.push (Ext.new _ _) hg7 ho7, HL3, HF3⟩
          case measure => simp [intOf]; omega
        · have hcs' : ¬ ((cnt p : Nat) : Int) ≤ (s : Int) := by omega
          have HD0 : Hid (dP n rev s p = false) := hd (by rw [HDP.out, decide_eq_false hcs]; rfl)
          have HL3 : Hid (ln = (List.range (p + 1)).filter (dP n rev s)) := hd (by rw [HL2.out, HD0.out]; simp)
          have HF3 : Hid (∀ i, i < p + 1 → fa (F.set p (-1)) i = if dP n rev s i then 0 else -1) := hd fun i hi => by
            rw [HFS.out i hi]
            by_cases e : i = p
            · subst e; rw [if_pos rfl, HD0.out]; rfl
            · rw [if_neg e]
          have HC := hd (fun w' => HCN.out w' p (by omega))
          clear hcs
          generalize cnt p = cp at *
          go_wp2_with fail
          refine HDV.out.mono ?_
          rintro e w5 ⟨rfl, hx5⟩
          have HF5 := hd (HF1.out.ext hx5)
          clear hx5
          go_wp2_with fail
          refine (HC.out _).mono ?_
          rintro e w6 ⟨rfl, rfl⟩
          go_wp2
          go_roundw
          case rel => exact ⟨p + 1, _, ln, by omega, by go_num, HF5.out, HL3, HF3⟩
          case measure => simp [intOf]; omega
    · obtain rfl : p = M := by omega
      have hpn : ¬ (p : Int) < (p : Int) := by omega
      have HBF : Hid (Bfs (eP ds n rev s) (dP n rev s) p F ln 0 (fun _ => False)) := hd (by rw [HLN.out]; exact Bfs.start hF.fl HFA.out)
      have HCS : Hid (∀ P ∈ ln, cnt P ≤ s) := hd fun P hP => by
        rw [HLN.out] at hP
        have := (List.mem_filter.1 hP).2
        unfold dP at this
        rw [Bool.and_eq_true, decide_eq_true_iff] at this
        exact this.2
      have HN1 := hd hn1
      clear hF HLN HFA HDN
      go_wp2
      go_loopw [11, 9] (fun kv lv wr => ∃ (k : Nat) (F : List Int) (ln : List Nat), kv = .int .i64 (k : Int) ∧ k ≤ p ∧ Fr W0 wr g p F lv ln ∧ Hid (Bfs (eP ds n rev s) (dP n rev s) p F ln k (fun _ => False)) ∧ Hid (∀ P ∈ ln, cnt P ≤ s)) (fun kv _ _ => p + 1 - (intOf kv).toNat)
      case atStart => exact ⟨0, F, ln, rfl, by omega, HFR.out, HBF, HCS⟩
      case round =>
        clear HFR HBF HCS
        obtain ⟨k, F, ln, rfl, hkp, hF, HBF, HCS⟩ := hrel
        have HFR := hd hF
        obtain ⟨A9, c9, e9, -⟩ := OwnI.form hF.l
        rw [natI_len] at e9
        subst e9
        have hkl := HBF.out.kl
        have hlM := HBF.out.lenM
        clear hF
        by_cases hlt2 : k < ln.length
        · have hk2 : (k : Int) < (ln.length : Int) := by omega
          have hqM : ln[k] < p := HBF.out.lt _ (List.getElem_mem hlt2)
          have hqs : cnt ln[k] ≤ s := HCS.out _ (List.getElem_mem hlt2)
          obtain ⟨q, hq⟩ : ∃ q, ln[k] = q := ⟨_, rfl⟩
          rw [hq] at hqM hqs
          have HQ0 : Hid (∃ h : k < ln.length, ln[k] = q) := hd ⟨hlt2, hq⟩
          have HB0 := hd (HBF.out.weak (S' := fun b => ∃ y, y < 0 ∧ b = q ^^^ 2 ^ y) (fun P hP => by obtain ⟨y, hy, _⟩ := hP; omega))
          have hk1M : k + 1 ≤ p := by omega
          clear hq
          go_wp2
          go_loopw [12, 9] (fun xv lv wr => ∃ (x : Nat) (F : List Int) (ln : List Nat), xv = .int .i64 (x : Int) ∧ x ≤ n ∧ Fr W0 wr g p F lv ln ∧ Hid (Bfs (eP ds n rev s) (dP n rev s) p F ln k (fun b => ∃ y, y < x ∧ b = q ^^^ 2 ^ y)) ∧ Hid (∀ P ∈ ln, cnt P ≤ s) ∧ Hid (∃ h : k < ln.length, ln[k] = q)) (fun xv _ _ => n - (intOf xv).toNat)
          case atStart => exact ⟨0, F, ln, rfl, by omega, HFR.out, HB0, HCS, HQ0⟩
          case round =>
            clear HFR HBF HCS HQ0 HB0 hlt2 hk2 hkl hlM
            obtain ⟨x, F, ln, rfl, hxn, hF, HBF, HCS, HQ⟩ := hrel
            have HFR := hd hF
            obtain ⟨A8, c8, e8, -⟩ := OwnI.form hF.l
            rw [natI_len] at e8
            subst e8
            clear hF
            by_cases hlt3 : x < n
            · have hx3 : (x : Int) < (n : Int) := by omega
              have HB4 := hd HBF.out
              go_wp2
              go_loopw [13, 9] (fun jv lv wr => ∃ (j : Nat) (F : List Int) (ln : List Nat), jv = .int .i64 ((j : Int) + 1) ∧ j ≤ 2 ∧ Fr W0 wr g p F lv ln ∧ Hid (Jst ds n rev s p F ln k q x j) ∧ Hid (∀ P ∈ ln, cnt P ≤ s) ∧ Hid (∃ h : k < ln.length, ln[k] = q)) (fun jv _ _ => 3 - (intOf jv).toNat)
              case atStart => exact ⟨0, F, ln, by simp, by omega, HFR.out, hd ⟨HB4.out, fun h => by omega, fun h => by omega⟩, HCS, HQ⟩
              case round =>
                clear HFR HBF HCS HQ HB4
                obtain ⟨j, F, ln, rfl, hj, hF, HJ, HCS, HQ⟩ := hrel
                have HFR := hd hF
                obtain ⟨A7, c7, e7, -⟩ := OwnI.form hF.l
                rw [natI_len] at e7
                subst e7
                by_cases hlt4 : j < 2
                · have hj2 : (j : Int) + 1 ≤ 2 := by omega
                  obtain ⟨hk', hq'⟩ := HQ.out
                  obtain ⟨aq, rfl, hcq⟩ := HFR.out.lat hk'
                  rw [hq'] at hcq
                  have hbM := HFL.out q x hqM hlt3
                  have hcf := HFR.out.at_ hbM
                  have hcq2 := HFR.out.at_ hqM
                  have hcd := HBX.out _ HFR.out.x
                  have HSK := hd (fun hn => HJ.out.skip hlt4 hk' hq' hlt3 hbM hqs hn)
                  have HPU := hd (fun h1 h2 h3 => HJ.out.push hlt4 hk' hq' hlt3 hbM hqs h1 h2 h3)
                  have HM := hd (fun w' hx => HMV.out w' hx (q ^^^ 2 ^ x) x ((j : Int) + 1) hlt3 (by omega) (by omega))
                  have HC := hd (fun w' => HCN.out w' (q ^^^ 2 ^ x) (by omega))
                  have hxo := xor64 q (2 ^ x) (by omega) (by have := Nat.pow_lt_pow_right (a := 2) (by decide) (show x < 11 by omega); omega)
                  have hwx := wrap_pow (m := x) (by omega)
                  have hlM2 := HJ.out.base.lenM
                  have hj0 : (0 : Int) ≤ (j : Int) := by omega
                  have HCP : Hid (cnt (q ^^^ 2 ^ x) ≤ s → ∀ P ∈ ln ++ [q ^^^ 2 ^ x], cnt P ≤ s) := hd fun h P hP => by
                    rcases List.mem_append.1 hP with hP | hP
                    · exact HCS.out P hP
                    · obtain rfl := List.mem_singleton.1 hP; exact h
                  have HQP : Hid (∀ b : Nat, ∃ h : k < (ln ++ [b]).length, (ln ++ [b])[k] = q) := hd fun b => ⟨by rw [List.length_append]; omega, by rw [List.getElem_append_left hk']; exact hq'⟩
                  have HJB := hd HJ.out.base
                  have HQQ := hd hq'
                  clear hF hq' HJ
                  obtain ⟨mz, hmz⟩ : ∃ mz, mvZ ds rev (q ^^^ 2 ^ x) ((j : Int) + 1) x = mz := ⟨_, rfl⟩
                  rw [hmz] at HM HPU HSK
                  clear hmz
                  obtain ⟨b, hb⟩ : ∃ b, q ^^^ 2 ^ x = b := ⟨_, rfl⟩
                  rw [hb] at hbM hcf HM HC hxo HCP HPU HSK
                  clear hb
                  obtain ⟨T, hT⟩ : ∃ T, 2 ^ x = T := ⟨_, rfl⟩
                  rw [hT] at hxo hwx
                  clear hT
                  obtain ⟨cb, hcb⟩ : ∃ c, cnt b = c := ⟨_, rfl⟩
                  rw [hcb] at HC HSK HPU HCP
                  clear hcb
                  obtain ⟨fb, hfb⟩ : ∃ c, fa F b = c := ⟨_, rfl⟩
                  rw [hfb] at hcf HSK HPU
                  clear hfb
                  have HS9 : Hid (∀ w' : World, Ext wr w' → w'.cell? ⟨w.heap.size, 0, none⟩ = some (.slice A n c) ∧ w'.cell? (aq.add k) = some (.int .i64 (q : Int)) ∧ w'.cell? ⟨g, b, none⟩ = some (.int .i64 fb)) := hd fun w' hx => ⟨hx.cell hcd, hx.cell hcq, hx.cell hcf⟩
                  have hb0 : (0 : Int) ≤ (b : Int) := by omega
                  have hbp : (b : Int) < (p : Int) := by omega
                  by_cases hcs : cb ≤ s
                  · have HDC : (s < cb) = False := eq_false (by omega)
                    by_cases hf0 : 0 ≤ fb
                    · have HJ2 := hd (HSK.out (fun _ h => by omega))
                      clear hcq2 hcs HSK HPU HCP HQP HM HJB HQQ
                      go_wp2_with fail
                      go_quiet (fail)
                      go_wp2_with fail
                      refine wp_region_sink (fun w' => (w').cell? ⟨w.heap.size, 0, none⟩ = some (.slice A n c) ∧ (w').cell? (aq.add k) = some (.int .i64 (q : Int)) ∧ (w').cell? ⟨g, b, none⟩ = some (.int .i64 fb)) 24 25 #[false, false, false, false, false, false, false, false, false, false, false, false, false, false, false, false, false, false, false, false, false, false, false, false, false] (by kernel_rfl) (by kernel_rfl) (by kernel_rfl) ?_
                      have HX0 := hd ((Ext.refl wr).drewN nq).drew
                      have HSA := HS9.out _ HX0.out
                      refine' ordG_take 0 (oi := _) (v := _) ?_ ?_ ?_ (Or.inl ⟨?_, ?_⟩) ?_ ?_
                      rotate_left 2
                      · (simp only [List.getElem?_toArray, List.getElem?_cons_zero]; rfl)
                      · kernel_rfl
                      · exact fun _ _ _ h => h
                      · rfl
                      · (intro w hSw; (try dsimp only at hSw); go_simp; (try with_reducible rfl))
                      · exact HSA
                      (try simp only [Act.put, List.setIfInBounds_toArray, List.set_cons_zero, List.set_cons_succ])
                      refine' ordG_take 2 (oi := _) (v := _) ?_ ?_ ?_ (Or.inl ⟨?_, ?_⟩) ?_ ?_
                      rotate_left 2
                      · (simp only [List.getElem?_toArray, List.getElem?_cons_zero, List.getElem?_cons_succ]; rfl)
                      · kernel_rfl
                      · exact fun _ _ _ h => h
                      · rfl
                      · (intro w hSw; (try dsimp only at hSw); go_simp; (try with_reducible rfl))
                      · exact HSA
                      (try simp only [Act.put, List.setIfInBounds_toArray, List.set_cons_zero, List.set_cons_succ])
                      refine ordG_all (rs := [1]) (by kernel_rfl) (by simp) (by decide) ?_
                      refine' ordG_cons (o := _) ?_ (fun K hK => ?_) ordG_nil
                      rotate_left 1
                      · (simp only [List.getElem?_toArray, List.getElem?_cons_zero, List.getElem?_cons_succ]; rfl)
                      go_simp
                      go_at_call 40
                      refine (HC.out _).mono ?_
                      rintro e w5 ⟨rfl, rfl⟩
                      go_simp
                      refine hK.out _ _ HSA ?_
                      clear hK K
                      (try simp only [Act.put, List.setIfInBounds_toArray, List.set_cons_zero, List.set_cons_succ])
                      refine' ordG_take 3 (oi := _) (v := _) ?_ ?_ ?_ (Or.inl ⟨?_, ?_⟩) ?_ ?_
                      rotate_left 2
                      · (simp only [List.getElem?_toArray, List.getElem?_cons_zero, List.getElem?_cons_succ]; rfl)
                      · kernel_rfl
                      · exact fun _ _ _ h => h
                      · rfl
                      · (intro w hSw; (try dsimp only at hSw); go_simp; (try with_reducible rfl))
                      · exact HSA
                      (try simp only [Act.put, List.setIfInBounds_toArray, List.set_cons_zero, List.set_cons_succ])
                      refine' ordG_take 4 (oi := _) (v := _) ?_ ?_ ?_ (Or.inl ⟨?_, ?_⟩) ?_ ?_
                      rotate_left 2
                      · (simp only [List.getElem?_toArray, List.getElem?_cons_zero, List.getElem?_cons_succ]; rfl)
                      · kernel_rfl
                      · exact fun _ _ _ h => h
                      · rfl
                      · (intro w hSw; (try dsimp only at hSw); go_simp; (try with_reducible rfl))
                      · exact HSA
                      (try simp only [Act.put, List.setIfInBounds_toArray, List.set_cons_zero, List.set_cons_succ])
                      (try simp only [HDC, decide_false, decide_true])
                      refine' ordG_take 5 (oi := _) (v := _) ?_ ?_ ?_ (Or.inl ⟨?_, ?_⟩) ?_ ?_
                      rotate_left 2
                      · (simp only [List.getElem?_toArray, List.getElem?_cons_zero, List.getElem?_cons_succ]; rfl)
                      · kernel_rfl
                      · exact fun _ _ _ h => h
                      · rfl
                      · (intro w hSw; (try dsimp only at hSw); go_simp; (try with_reducible rfl))
                      · exact HSA
                      (try simp only [Act.put, List.setIfInBounds_toArray, List.set_cons_zero, List.set_cons_succ])
                      refine' ordG_take 6 (oi := _) (v := _) ?_ ?_ ?_ (Or.inl ⟨?_, ?_⟩) ?_ ?_
                      rotate_left 2
                      · (simp only [List.getElem?_toArray, List.getElem?_cons_zero, List.getElem?_cons_succ]; rfl)
                      · kernel_rfl
                      · exact fun _ _ _ h => h
                      · rfl
                      · (intro w hSw; (try dsimp only at hSw); go_simp; (try with_reducible rfl))
                      · exact HSA
                      (try simp only [Act.put, List.setIfInBounds_toArray, List.set_cons_zero, List.set_cons_succ])
                      refine' ordG_take 7 (oi := _) (v := _) ?_ ?_ ?_ (Or.inl ⟨?_, ?_⟩) ?_ ?_
                      rotate_left 2
                      · (simp only [List.getElem?_toArray, List.getElem?_cons_zero, List.getElem?_cons_succ]; rfl)
                      · kernel_rfl
                      · exact fun _ _ _ h => h
                      · rfl
                      · (intro w hSw; (try dsimp only at hSw); go_simp; (try with_reducible rfl))
                      · exact HSA
                      (try simp only [Act.put, List.setIfInBounds_toArray, List.set_cons_zero, List.set_cons_succ])
                      refine' ordG_take 8 (oi := _) (v := _) ?_ ?_ ?_ (Or.inl ⟨?_, ?_⟩) ?_ ?_
                      rotate_left 2
                      · (simp only [List.getElem?_toArray, List.getElem?_cons_zero, List.getElem?_cons_succ]; rfl)
                      · kernel_rfl
                      · exact fun _ _ _ h => h
                      · rfl
                      · (intro w hSw; (try dsimp only at hSw); go_simp; (try with_reducible rfl))
                      · exact HSA
                      (try simp only [Act.put, List.setIfInBounds_toArray, List.set_cons_zero, List.set_cons_succ])
                      refine' ordG_take 9 (oi := _) (v := _) ?_ ?_ ?_ (Or.inl ⟨?_, ?_⟩) ?_ ?_
                      rotate_left 2
                      · (simp only [List.getElem?_toArray, List.getElem?_cons_zero, List.getElem?_cons_succ]; rfl)
                      · kernel_rfl
                      · exact fun _ _ _ h => h
                      · rfl
                      · (intro w hSw; (try dsimp only at hSw); go_simp; (try with_reducible rfl))
                      · exact HSA
                      (try simp only [Act.put, List.setIfInBounds_toArray, List.set_cons_zero, List.set_cons_succ])
                      refine' ordG_take 10 (oi := _) (v := _) ?_ ?_ ?_ (Or.inl ⟨?_, ?_⟩) ?_ ?_
                      rotate_left 2
                      · (simp only [List.getElem?_toArray, List.getElem?_cons_zero, List.getElem?_cons_succ]; rfl)
                      · kernel_rfl
                      · exact fun _ _ _ h => h
                      · rfl
                      · (intro w hSw; (try dsimp only at hSw); go_simp; (try with_reducible rfl))
                      · exact HSA
                      (try simp only [Act.put, List.setIfInBounds_toArray, List.set_cons_zero, List.set_cons_succ])
                      refine' ordG_take 11 (oi := _) (v := _) ?_ ?_ ?_ (Or.inl ⟨?_, ?_⟩) ?_ ?_
                      rotate_left 2
                      · (simp only [List.getElem?_toArray, List.getElem?_cons_zero, List.getElem?_cons_succ]; rfl)
                      · kernel_rfl
                      · exact fun _ _ _ h => h
                      · rfl
                      · (intro w hSw; (try dsimp only at hSw); go_simp; (try with_reducible rfl))
                      · exact HSA
                      (try simp only [Act.put, List.setIfInBounds_toArray, List.set_cons_zero, List.set_cons_succ])
                      refine' ordG_take 12 (oi := _) (v := _) ?_ ?_ ?_ (Or.inr ⟨?_, ?_⟩) ?_ ?_
                      rotate_left 2
                      · (simp only [List.getElem?_toArray, List.getElem?_cons_zero, List.getElem?_cons_succ]; rfl)
                      · kernel_rfl
                      · exact fun _ _ _ h => h
                      · rfl
                      · rfl
                      · exact HSA
                      (try simp only [Act.put, List.setIfInBounds_toArray, List.set_cons_zero, List.set_cons_succ])
                      refine' ordG_take 13 (oi := _) (v := _) ?_ ?_ ?_ (Or.inr ⟨?_, ?_⟩) ?_ ?_
                      rotate_left 2
                      · (simp only [List.getElem?_toArray, List.getElem?_cons_zero, List.getElem?_cons_succ]; rfl)
                      · kernel_rfl
                      · exact fun _ _ _ h => h
                      · rfl
                      · rfl
                      · exact HSA
                      (try simp only [Act.put, List.setIfInBounds_toArray, List.set_cons_zero, List.set_cons_succ])
                      refine' ordG_take 14 (oi := _) (v := _) ?_ ?_ ?_ (Or.inr ⟨?_, ?_⟩) ?_ ?_
                      rotate_left 2
                      · (simp only [List.getElem?_toArray, List.getElem?_cons_zero, List.getElem?_cons_succ]; rfl)
                      · kernel_rfl
                      · exact fun _ _ _ h => h
                      · rfl
                      · rfl
                      · exact HSA
                      (try simp only [Act.put, List.setIfInBounds_toArray, List.set_cons_zero, List.set_cons_succ])
                      refine' ordG_take 15 (oi := _) (v := _) ?_ ?_ ?_ (Or.inr ⟨?_, ?_⟩) ?_ ?_
                      rotate_left 2
                      · (simp only [List.getElem?_toArray, List.getElem?_cons_zero, List.getElem?_cons_succ]; rfl)
                      · kernel_rfl
                      · exact fun _ _ _ h => h
                      · rfl
                      · rfl
                      · exact HSA
                      (try simp only [Act.put, List.setIfInBounds_toArray, List.set_cons_zero, List.set_cons_succ])
                      refine' ordG_take 16 (oi := _) (v := _) ?_ ?_ ?_ (Or.inr ⟨?_, ?_⟩) ?_ ?_
                      rotate_left 2
                      · (simp only [List.getElem?_toArray, List.getElem?_cons_zero, List.getElem?_cons_succ]; rfl)
                      · kernel_rfl
                      · exact fun _ _ _ h => h
                      · rfl
                      · rfl
                      · exact HSA
                      (try simp only [Act.put, List.setIfInBounds_toArray, List.set_cons_zero, List.set_cons_succ])
                      refine' ordG_take 17 (oi := _) (v := _) ?_ ?_ ?_ (Or.inr ⟨?_, ?_⟩) ?_ ?_
                      rotate_left 2
                      · (simp only [List.getElem?_toArray, List.getElem?_cons_zero, List.getElem?_cons_succ]; rfl)
                      · kernel_rfl
                      · exact fun _ _ _ h => h
                      · rfl
                      · rfl
                      · exact HSA
                      (try simp only [Act.put, List.setIfInBounds_toArray, List.set_cons_zero, List.set_cons_succ])
                      refine' ordG_take 18 (oi := _) (v := _) ?_ ?_ ?_ (Or.inr ⟨?_, ?_⟩) ?_ ?_
                      rotate_left 2
                      · (simp only [List.getElem?_toArray, List.getElem?_cons_zero, List.getElem?_cons_succ]; rfl)
                      · kernel_rfl
                      · exact fun _ _ _ h => h
                      · rfl
                      · rfl
                      · exact HSA
                      (try simp only [Act.put, List.setIfInBounds_toArray, List.set_cons_zero, List.set_cons_succ])
                      refine' ordG_take 19 (oi := _) (v := _) ?_ ?_ ?_ (Or.inr ⟨?_, ?_⟩) ?_ ?_
                      rotate_left 2
                      · (simp only [List.getElem?_toArray, List.getElem?_cons_zero, List.getElem?_cons_succ]; rfl)
                      · kernel_rfl
                      · exact fun _ _ _ h => h
                      · rfl
                      · rfl
                      · exact HSA
                      (try simp only [Act.put, List.setIfInBounds_toArray, List.set_cons_zero, List.set_cons_succ])
                      refine' ordG_take 20 (oi := _) (v := _) ?_ ?_ ?_ (Or.inr ⟨?_, ?_⟩) ?_ ?_
                      rotate_left 2
                      · (simp only [List.getElem?_toArray, List.getElem?_cons_zero, List.getElem?_cons_succ]; rfl)
                      · kernel_rfl
                      · exact fun _ _ _ h => h
                      · rfl
                      · rfl
                      · exact HSA
                      (try simp only [Act.put, List.setIfInBounds_toArray, List.set_cons_zero, List.set_cons_succ])
                      refine' ordG_take 21 (oi := _) (v := _) ?_ ?_ ?_ (Or.inr ⟨?_, ?_⟩) ?_ ?_
                      rotate_left 2
                      · (simp only [List.getElem?_toArray, List.getElem?_cons_zero, List.getElem?_cons_succ]; rfl)
                      · kernel_rfl
                      · exact fun _ _ _ h => h
                      · rfl
                      · rfl
                      · exact HSA
                      (try simp only [Act.put, List.setIfInBounds_toArray, List.set_cons_zero, List.set_cons_succ])
                      refine' ordG_take 22 (oi := _) (v := _) ?_ ?_ ?_ (Or.inr ⟨?_, ?_⟩) ?_ ?_
                      rotate_left 2
                      · (simp only [List.getElem?_toArray, List.getElem?_cons_zero, List.getElem?_cons_succ]; rfl)
                      · kernel_rfl
                      · exact fun _ _ _ h => h
                      · rfl
                      · rfl
                      · exact HSA
                      (try simp only [Act.put, List.setIfInBounds_toArray, List.set_cons_zero, List.set_cons_succ])
                      refine' ordG_take 23 (oi := _) (v := _) ?_ ?_ ?_ (Or.inr ⟨?_, ?_⟩) ?_ ?_
                      rotate_left 2
                      · (simp only [List.getElem?_toArray, List.getElem?_cons_zero, List.getElem?_cons_succ]; rfl)
                      · kernel_rfl
                      · exact fun _ _ _ h => h
                      · rfl
                      · rfl
                      · exact HSA
                      (try simp only [Act.put, List.setIfInBounds_toArray, List.set_cons_zero, List.set_cons_succ])
                      refine ordG_last (by kernel_rfl) (by kernel_rfl) ?_
                      refine' wpOp_step (o := _) ?_ (fun K hK => ?_)
                      rotate_left 1
                      · (simp only [List.getElem?_toArray, List.getElem?_cons_zero, List.getElem?_cons_succ]; rfl)
                      go_simp
                      refine hK _ _ ?_
                      clear hK K HSA
                      (try simp only [Act.put, List.setIfInBounds_toArray, List.set_cons_zero, List.set_cons_succ])
                      go_wp2
                      go_roundw
                      case rel => exact ⟨j + 1, F, ln, by go_num, by omega, HFR.out.ext HX0.out, HJ2, HCS, HQ⟩
                      case measure => simp [intOf]; omega
                    · have hfn : fb < 0 := by omega
                      have HDF : (0 ≤ fb) = False := eq_false (by omega)
                      clear hf0
                      by_cases hme : mz = (q : Int)
                      · have HJ2 := hd (HPU.out hcs hfn hme)
                        have HCS2 := hd (HCP.out hcs)
                        subst hme
                        obtain ⟨fq, hfq⟩ : ∃ c, fa F q = c := ⟨_, rfl⟩
                        have HB7 : Hid (∃ d : Nat, fa F q = (d : Int) ∧ Dst (eP ds n rev s) (dP n rev s) p d q) := hd (by have := HJB.out.a1 _ (List.getElem_mem hk'); rw [HQQ.out] at this; exact this)
                        rw [hfq] at hcq2 HJ2 HB7
                        clear hfq hcs HSK HPU HCP HCS HQ HJB HQQ
                        go_wp2_with fail
                        go_quiet (fail)
                        go_wp2_with fail
                        refine wp_region_sink (fun w' => (w').cell? ⟨w.heap.size, 0, none⟩ = some (.slice A n c) ∧ (w').cell? (aq.add k) = some (.int .i64 (q : Int)) ∧ (w').cell? ⟨g, b, none⟩ = some (.int .i64 fb)) 24 25 #[false, false, false, false, false, false, false, false, false, false, false, false, false, false, false, false, false, false, false, false, false, false, false, false, false] (by kernel_rfl) (by kernel_rfl) (by kernel_rfl) ?_
                        have HX0 := hd ((Ext.refl wr).drewN nq).drew
                        have HSA := HS9.out _ HX0.out
                        refine' ordG_take 0 (oi := _) (v := _) ?_ ?_ ?_ (Or.inl ⟨?_, ?_⟩) ?_ ?_
                        rotate_left 2
                        · (simp only [List.getElem?_toArray, List.getElem?_cons_zero]; rfl)
                        · kernel_rfl
                        · exact fun _ _ _ h => h
                        · rfl
                        · (intro w hSw; (try dsimp only at hSw); go_simp; (try with_reducible rfl))
                        · exact HSA
                        (try simp only [Act.put, List.setIfInBounds_toArray, List.set_cons_zero, List.set_cons_succ])
                        refine' ordG_take 2 (oi := _) (v := _) ?_ ?_ ?_ (Or.inl ⟨?_, ?_⟩) ?_ ?_
                        rotate_left 2
                        · (simp only [List.getElem?_toArray, List.getElem?_cons_zero, List.getElem?_cons_succ]; rfl)
                        · kernel_rfl
                        · exact fun _ _ _ h => h
                        · rfl
                        · (intro w hSw; (try dsimp only at hSw); go_simp; (try with_reducible rfl))
                        · exact HSA
                        (try simp only [Act.put, List.setIfInBounds_toArray, List.set_cons_zero, List.set_cons_succ])
                        refine ordG_all (rs := [1]) (by kernel_rfl) (by simp) (by decide) ?_
                        refine' ordG_cons (o := _) ?_ (fun K hK => ?_) ordG_nil
                        rotate_left 1
                        · (simp only [List.getElem?_toArray, List.getElem?_cons_zero, List.getElem?_cons_succ]; rfl)
                        go_simp
                        go_at_call 40
                        refine (HC.out _).mono ?_
                        rintro e w5 ⟨rfl, rfl⟩
                        go_simp
                        refine hK.out _ _ HSA ?_
                        clear hK K
                        (try simp only [Act.put, List.setIfInBounds_toArray, List.set_cons_zero, List.set_cons_succ])
                        refine' ordG_take 3 (oi := _) (v := _) ?_ ?_ ?_ (Or.inl ⟨?_, ?_⟩) ?_ ?_
                        rotate_left 2
                        · (simp only [List.getElem?_toArray, List.getElem?_cons_zero, List.getElem?_cons_succ]; rfl)
                        · kernel_rfl
                        · exact fun _ _ _ h => h
                        · rfl
                        · (intro w hSw; (try dsimp only at hSw); go_simp; (try with_reducible rfl))
                        · exact HSA
                        (try simp only [Act.put, List.setIfInBounds_toArray, List.set_cons_zero, List.set_cons_succ])
                        refine' ordG_take 4 (oi := _) (v := _) ?_ ?_ ?_ (Or.inl ⟨?_, ?_⟩) ?_ ?_
                        rotate_left 2
                        · (simp only [List.getElem?_toArray, List.getElem?_cons_zero, List.getElem?_cons_succ]; rfl)
                        · kernel_rfl
                        · exact fun _ _ _ h => h
                        · rfl
                        · (intro w hSw; (try dsimp only at hSw); go_simp; (try with_reducible rfl))
                        · exact HSA
                        (try simp only [Act.put, List.setIfInBounds_toArray, List.set_cons_zero, List.set_cons_succ])
                        (try simp only [HDC, decide_false, decide_true])
                        refine' ordG_take 5 (oi := _) (v := _) ?_ ?_ ?_ (Or.inl ⟨?_, ?_⟩) ?_ ?_
                        rotate_left 2
                        · (simp only [List.getElem?_toArray, List.getElem?_cons_zero, List.getElem?_cons_succ]; rfl)
                        · kernel_rfl
                        · exact fun _ _ _ h => h
                        · rfl
                        · (intro w hSw; (try dsimp only at hSw); go_simp; (try with_reducible rfl))
                        · exact HSA
                        (try simp only [Act.put, List.setIfInBounds_toArray, List.set_cons_zero, List.set_cons_succ])
                        refine' ordG_take 6 (oi := _) (v := _) ?_ ?_ ?_ (Or.inl ⟨?_, ?_⟩) ?_ ?_
                        rotate_left 2
                        · (simp only [List.getElem?_toArray, List.getElem?_cons_zero, List.getElem?_cons_succ]; rfl)
                        · kernel_rfl
                        · exact fun _ _ _ h => h
                        · rfl
                        · (intro w hSw; (try dsimp only at hSw); go_simp; (try with_reducible rfl))
                        · exact HSA
                        (try simp only [Act.put, List.setIfInBounds_toArray, List.set_cons_zero, List.set_cons_succ])
                        refine' ordG_take 7 (oi := _) (v := _) ?_ ?_ ?_ (Or.inl ⟨?_, ?_⟩) ?_ ?_
                        rotate_left 2
                        · (simp only [List.getElem?_toArray, List.getElem?_cons_zero, List.getElem?_cons_succ]; rfl)
                        · kernel_rfl
                        · exact fun _ _ _ h => h
                        · rfl
                        · (intro w hSw; (try dsimp only at hSw); go_simp; (try with_reducible rfl))
                        · exact HSA
                        (try simp only [Act.put, List.setIfInBounds_toArray, List.set_cons_zero, List.set_cons_succ])
                        refine' ordG_take 8 (oi := _) (v := _) ?_ ?_ ?_ (Or.inl ⟨?_, ?_⟩) ?_ ?_
                        rotate_left 2
                        · (simp only [List.getElem?_toArray, List.getElem?_cons_zero, List.getElem?_cons_succ]; rfl)
                        · kernel_rfl
                        · exact fun _ _ _ h => h
                        · rfl
                        · (intro w hSw; (try dsimp only at hSw); go_simp; (try with_reducible rfl))
                        · exact HSA
                        (try simp only [Act.put, List.setIfInBounds_toArray, List.set_cons_zero, List.set_cons_succ])
                        refine' ordG_take 9 (oi := _) (v := _) ?_ ?_ ?_ (Or.inl ⟨?_, ?_⟩) ?_ ?_
                        rotate_left 2
                        · (simp only [List.getElem?_toArray, List.getElem?_cons_zero, List.getElem?_cons_succ]; rfl)
                        · kernel_rfl
                        · exact fun _ _ _ h => h
                        · rfl
                        · (intro w hSw; (try dsimp only at hSw); go_simp; (try with_reducible rfl))
                        · exact HSA
                        (try simp only [Act.put, List.setIfInBounds_toArray, List.set_cons_zero, List.set_cons_succ])
                        (try simp only [HDF, decide_false])
                        refine' ordG_take 10 (oi := _) (v := _) ?_ ?_ ?_ (Or.inl ⟨?_, ?_⟩) ?_ ?_
                        rotate_left 2
                        · (simp only [List.getElem?_toArray, List.getElem?_cons_zero, List.getElem?_cons_succ]; rfl)
                        · kernel_rfl
                        · exact fun _ _ _ h => h
                        · rfl
                        · (intro w hSw; (try dsimp only at hSw); go_simp; (try with_reducible rfl))
                        · exact HSA
                        (try simp only [Act.put, List.setIfInBounds_toArray, List.set_cons_zero, List.set_cons_succ])
                        refine' ordG_take 11 (oi := _) (v := _) ?_ ?_ ?_ (Or.inl ⟨?_, ?_⟩) ?_ ?_
                        rotate_left 2
                        · (simp only [List.getElem?_toArray, List.getElem?_cons_zero, List.getElem?_cons_succ]; rfl)
                        · kernel_rfl
                        · exact fun _ _ _ h => h
                        · rfl
                        · (intro w hSw; (try dsimp only at hSw); go_simp; (try with_reducible rfl))
                        · exact HSA
                        (try simp only [Act.put, List.setIfInBounds_toArray, List.set_cons_zero, List.set_cons_succ])
                        refine' ordG_take 12 (oi := _) (v := _) ?_ ?_ ?_ (Or.inl ⟨?_, ?_⟩) ?_ ?_
                        rotate_left 2
                        · (simp only [List.getElem?_toArray, List.getElem?_cons_zero, List.getElem?_cons_succ]; rfl)
                        · kernel_rfl
                        · exact fun _ _ _ h => h
                        · rfl
                        · (intro w hSw; (try dsimp only at hSw); go_simp; (try with_reducible rfl))
                        · exact HSA
                        (try simp only [Act.put, List.setIfInBounds_toArray, List.set_cons_zero, List.set_cons_succ])
                        refine' ordG_take 13 (oi := _) (v := _) ?_ ?_ ?_ (Or.inl ⟨?_, ?_⟩) ?_ ?_
                        rotate_left 2
                        · (simp only [List.getElem?_toArray, List.getElem?_cons_zero, List.getElem?_cons_succ]; rfl)
                        · kernel_rfl
                        · exact fun _ _ _ h => h
                        · rfl
                        · (intro w hSw; (try dsimp only at hSw); go_simp; (try with_reducible rfl))
                        · exact HSA
                        (try simp only [Act.put, List.setIfInBounds_toArray, List.set_cons_zero, List.set_cons_succ])
                        refine' ordG_take 14 (oi := _) (v := _) ?_ ?_ ?_ (Or.inl ⟨?_, ?_⟩) ?_ ?_
                        rotate_left 2
                        · (simp only [List.getElem?_toArray, List.getElem?_cons_zero, List.getElem?_cons_succ]; rfl)
                        · kernel_rfl
                        · exact fun _ _ _ h => h
                        · rfl
                        · (intro w hSw; (try dsimp only at hSw); go_simp; (try with_reducible rfl))
                        · exact HSA
                        (try simp only [Act.put, List.setIfInBounds_toArray, List.set_cons_zero, List.set_cons_succ])
                        refine' ordG_take 15 (oi := _) (v := _) ?_ ?_ ?_ (Or.inl ⟨?_, ?_⟩) ?_ ?_
                        rotate_left 2
                        · (simp only [List.getElem?_toArray, List.getElem?_cons_zero, List.getElem?_cons_succ]; rfl)
                        · kernel_rfl
                        · exact fun _ _ _ h => h
                        · rfl
                        · (intro w hSw; (try dsimp only at hSw); go_simp; (try with_reducible rfl))
                        · exact HSA
                        (try simp only [Act.put, List.setIfInBounds_toArray, List.set_cons_zero, List.set_cons_succ])
                        refine' ordG_take 16 (oi := _) (v := _) ?_ ?_ ?_ (Or.inl ⟨?_, ?_⟩) ?_ ?_
                        rotate_left 2
                        · (simp only [List.getElem?_toArray, List.getElem?_cons_zero, List.getElem?_cons_succ]; rfl)
                        · kernel_rfl
                        · exact fun _ _ _ h => h
                        · rfl
                        · (intro w hSw; (try dsimp only at hSw); go_simp; (try with_reducible rfl))
                        · exact HSA
                        (try simp only [Act.put, List.setIfInBounds_toArray, List.set_cons_zero, List.set_cons_succ])
                        refine' ordG_take 17 (oi := _) (v := _) ?_ ?_ ?_ (Or.inl ⟨?_, ?_⟩) ?_ ?_
                        rotate_left 2
                        · (simp only [List.getElem?_toArray, List.getElem?_cons_zero, List.getElem?_cons_succ]; rfl)
                        · kernel_rfl
                        · exact fun _ _ _ h => h
                        · rfl
                        · (intro w hSw; (try dsimp only at hSw); go_simp; (try with_reducible rfl))
                        · exact HSA
                        (try simp only [Act.put, List.setIfInBounds_toArray, List.set_cons_zero, List.set_cons_succ])
                        refine' ordG_take 19 (oi := _) (v := _) ?_ ?_ ?_ (Or.inl ⟨?_, ?_⟩) ?_ ?_
                        rotate_left 2
                        · (simp only [List.getElem?_toArray, List.getElem?_cons_zero, List.getElem?_cons_succ]; rfl)
                        · kernel_rfl
                        · exact fun _ _ _ h => h
                        · rfl
                        · (intro w hSw; (try dsimp only at hSw); go_simp; (try with_reducible rfl))
                        · exact HSA
                        (try simp only [Act.put, List.setIfInBounds_toArray, List.set_cons_zero, List.set_cons_succ])
                        refine' ordG_take 20 (oi := _) (v := _) ?_ ?_ ?_ (Or.inl ⟨?_, ?_⟩) ?_ ?_
                        rotate_left 2
                        · (simp only [List.getElem?_toArray, List.getElem?_cons_zero, List.getElem?_cons_succ]; rfl)
                        · kernel_rfl
                        · exact fun _ _ _ h => h
                        · rfl
                        · (intro w hSw; (try dsimp only at hSw); go_simp; (try with_reducible rfl))
                        · exact HSA
                        (try simp only [Act.put, List.setIfInBounds_toArray, List.set_cons_zero, List.set_cons_succ])
                        refine' ordG_take 21 (oi := _) (v := _) ?_ ?_ ?_ (Or.inl ⟨?_, ?_⟩) ?_ ?_
                        rotate_left 2
                        · (simp only [List.getElem?_toArray, List.getElem?_cons_zero, List.getElem?_cons_succ]; rfl)
                        · kernel_rfl
                        · exact fun _ _ _ h => h
                        · rfl
                        · (intro w hSw; (try dsimp only at hSw); go_simp; (try with_reducible rfl))
                        · exact HSA
                        (try simp only [Act.put, List.setIfInBounds_toArray, List.set_cons_zero, List.set_cons_succ])
                        refine' ordG_take 22 (oi := _) (v := _) ?_ ?_ ?_ (Or.inl ⟨?_, ?_⟩) ?_ ?_
                        rotate_left 2
                        · (simp only [List.getElem?_toArray, List.getElem?_cons_zero, List.getElem?_cons_succ]; rfl)
                        · kernel_rfl
                        · exact fun _ _ _ h => h
                        · rfl
                        · (intro w hSw; (try dsimp only at hSw); go_simp; (try with_reducible rfl))
                        · exact HSA
                        (try simp only [Act.put, List.setIfInBounds_toArray, List.set_cons_zero, List.set_cons_succ])
                        refine ordG_all (rs := [18]) (by kernel_rfl) (by simp) (by decide) ?_
                        refine' ordG_cons (o := _) ?_ (fun K hK => ?_) ordG_nil
                        rotate_left 1
                        · (simp only [List.getElem?_toArray, List.getElem?_cons_zero, List.getElem?_cons_succ]; rfl)
                        go_simp
                        go_at_call 33
                        refine (HM.out _ ((XB.out.trans HFR.out.x).trans HX0.out)).mono ?_
                        rintro e w6 ⟨rfl, hx6⟩
                        have HX6 := hd (HX0.out.trans hx6)
                        go_simp
                        refine hK.out _ _ (HS9.out _ HX6.out) ?_
                        clear hK K HSA hx6
                        (try simp only [Act.put, List.setIfInBounds_toArray, List.set_cons_zero, List.set_cons_succ])
                        have HSA := HS9.out _ HX6.out
                        refine' ordG_take 23 (oi := _) (v := _) ?_ ?_ ?_ (Or.inl ⟨?_, ?_⟩) ?_ ?_
                        rotate_left 2
                        · (simp only [List.getElem?_toArray, List.getElem?_cons_zero, List.getElem?_cons_succ]; rfl)
                        · kernel_rfl
                        · exact fun _ _ _ h => h
                        · rfl
                        · (intro w hSw; (try dsimp only at hSw); go_simp; (try with_reducible rfl))
                        · exact HSA
                        (try simp only [Act.put, List.setIfInBounds_toArray, List.set_cons_zero, List.set_cons_succ])
                        refine ordG_last (by kernel_rfl) (by kernel_rfl) ?_
                        refine' wpOp_step (o := _) ?_ (fun K hK => ?_)
                        rotate_left 1
                        · (simp only [List.getElem?_toArray, List.getElem?_cons_zero, List.getElem?_cons_succ]; rfl)
                        go_simp
                        refine hK _ _ ?_
                        clear hK K HSA HM
                        (try simp only [Act.put, List.setIfInBounds_toArray, List.set_cons_zero, List.set_cons_succ])
                        have hcq6 := HX6.out.cell hcq
                        have hcf6 := HX6.out.cell hcf
                        have hcq7 := HX6.out.cell hcq2
                        obtain ⟨dq, hdq, hdd⟩ := HB7.out
                        have hdl := hdd.le hqM
                        subst hdq
                        have hF6 := HFR.out.ext HX6.out
                        obtain ⟨⟨u3, d1⟩, d2, hF7⟩ := hF6.put hbM ((dq : Int) + 1)
                        have HF7 := hd hF7
                        have hsz7 : g + 1 ≤ (w6.setCell ⟨g, b, none⟩ (.int .i64 ((dq : Int) + 1))).heap.size := (ownI_blk hF7.f).2
                        clear hdd hF6 hF7
                        go_wp2_with (at_builtin; refine appI (w6.setCell ⟨g, b, none⟩ (.int .i64 ((dq : Int) + 1))) HF7.out.l rfl _ _ rfl (b : Int) (by rfl) (by first | rfl | (show Value.slice _ _ _ = Value.slice _ _ _; rw [size_setCell])) (by rw [natI_len]; omega) hsz7 ?_; intro v8 w8 ho8 hg8 hb8)
                        go_roundw
                        case rel => exact ⟨j + 1, _, ln ++ [b], by go_num, by omega, HF7.out.push (Ext.new _ _) hg8 ho8, HJ2, HCS2, hd (HQP.out b)⟩
                        case measure => simp [intOf]; omega
                      · have HJ2 := hd (HSK.out (fun _ _ => hme))
                        clear hcq2 hcs HSK HPU HCP HQP HJB HQQ
                        go_wp2_with fail
                        go_quiet (fail)
                        go_wp2_with fail
                        refine wp_region_sink (fun w' => (w').cell? ⟨w.heap.size, 0, none⟩ = some (.slice A n c) ∧ (w').cell? (aq.add k) = some (.int .i64 (q : Int)) ∧ (w').cell? ⟨g, b, none⟩ = some (.int .i64 fb)) 24 25 #[false, false, false, false, false, false, false, false, false, false, false, false, false, false, false, false, false, false, false, false, false, false, false, false, false] (by kernel_rfl) (by kernel_rfl) (by kernel_rfl) ?_
                        have HX0 := hd ((Ext.refl wr).drewN nq).drew
                        have HSA := HS9.out _ HX0.out
                        refine' ordG_take 0 (oi := _) (v := _) ?_ ?_ ?_ (Or.inl ⟨?_, ?_⟩) ?_ ?_
                        rotate_left 2
                        · (simp only [List.getElem?_toArray, List.getElem?_cons_zero]; rfl)
                        · kernel_rfl
                        · exact fun _ _ _ h => h
                        · rfl
                        · (intro w hSw; (try dsimp only at hSw); go_simp; (try with_reducible rfl))
                        · exact HSA
                        (try simp only [Act.put, List.setIfInBounds_toArray, List.set_cons_zero, List.set_cons_succ])
                        refine' ordG_take 2 (oi := _) (v := _) ?_ ?_ ?_ (Or.inl ⟨?_, ?_⟩) ?_ ?_
                        rotate_left 2
                        · (simp only [List.getElem?_toArray, List.getElem?_cons_zero, List.getElem?_cons_succ]; rfl)
                        · kernel_rfl
                        · exact fun _ _ _ h => h
                        · rfl
                        · (intro w hSw; (try dsimp only at hSw); go_simp; (try with_reducible rfl))
                        · exact HSA
                        (try simp only [Act.put, List.setIfInBounds_toArray, List.set_cons_zero, List.set_cons_succ])
                        refine ordG_all (rs := [1]) (by kernel_rfl) (by simp) (by decide) ?_
                        refine' ordG_cons (o := _) ?_ (fun K hK => ?_) ordG_nil
                        rotate_left 1
                        · (simp only [List.getElem?_toArray, List.getElem?_cons_zero, List.getElem?_cons_succ]; rfl)
                        go_simp
                        go_at_call 40
                        refine (HC.out _).mono ?_
                        rintro e w5 ⟨rfl, rfl⟩
                        go_simp
                        refine hK.out _ _ HSA ?_
                        clear hK K
                        (try simp only [Act.put, List.setIfInBounds_toArray, List.set_cons_zero, List.set_cons_succ])
                        refine' ordG_take 3 (oi := _) (v := _) ?_ ?_ ?_ (Or.inl ⟨?_, ?_⟩) ?_ ?_
                        rotate_left 2
                        · (simp only [List.getElem?_toArray, List.getElem?_cons_zero, List.getElem?_cons_succ]; rfl)
                        · kernel_rfl
                        · exact fun _ _ _ h => h
                        · rfl
                        · (intro w hSw; (try dsimp only at hSw); go_simp; (try with_reducible rfl))
                        · exact HSA
                        (try simp only [Act.put, List.setIfInBounds_toArray, List.set_cons_zero, List.set_cons_succ])
                        refine' ordG_take 4 (oi := _) (v := _) ?_ ?_ ?_ (Or.inl ⟨?_, ?_⟩) ?_ ?_
                        rotate_left 2
                        · (simp only [List.getElem?_toArray, List.getElem?_cons_zero, List.getElem?_cons_succ]; rfl)
                        · kernel_rfl
                        · exact fun _ _ _ h => h
                        · rfl
                        · (intro w hSw; (try dsimp only at hSw); go_simp; (try with_reducible rfl))
                        · exact HSA
                        (try simp only [Act.put, List.setIfInBounds_toArray, List.set_cons_zero, List.set_cons_succ])
                        (try simp only [HDC, decide_false, decide_true])
                        refine' ordG_take 5 (oi := _) (v := _) ?_ ?_ ?_ (Or.inl ⟨?_, ?_⟩) ?_ ?_
                        rotate_left 2
                        · (simp only [List.getElem?_toArray, List.getElem?_cons_zero, List.getElem?_cons_succ]; rfl)
                        · kernel_rfl
                        · exact fun _ _ _ h => h
                        · rfl
                        · (intro w hSw; (try dsimp only at hSw); go_simp; (try with_reducible rfl))
                        · exact HSA
                        (try simp only [Act.put, List.setIfInBounds_toArray, List.set_cons_zero, List.set_cons_succ])
                        refine' ordG_take 6 (oi := _) (v := _) ?_ ?_ ?_ (Or.inl ⟨?_, ?_⟩) ?_ ?_
                        rotate_left 2
                        · (simp only [List.getElem?_toArray, List.getElem?_cons_zero, List.getElem?_cons_succ]; rfl)
                        · kernel_rfl
                        · exact fun _ _ _ h => h
                        · rfl
                        · (intro w hSw; (try dsimp only at hSw); go_simp; (try with_reducible rfl))
                        · exact HSA
                        (try simp only [Act.put, List.setIfInBounds_toArray, List.set_cons_zero, List.set_cons_succ])
                        refine' ordG_take 7 (oi := _) (v := _) ?_ ?_ ?_ (Or.inl ⟨?_, ?_⟩) ?_ ?_
                        rotate_left 2
                        · (simp only [List.getElem?_toArray, List.getElem?_cons_zero, List.getElem?_cons_succ]; rfl)
                        · kernel_rfl
                        · exact fun _ _ _ h => h
                        · rfl
                        · (intro w hSw; (try dsimp only at hSw); go_simp; (try with_reducible rfl))
                        · exact HSA
                        (try simp only [Act.put, List.setIfInBounds_toArray, List.set_cons_zero, List.set_cons_succ])
                        refine' ordG_take 8 (oi := _) (v := _) ?_ ?_ ?_ (Or.inl ⟨?_, ?_⟩) ?_ ?_
                        rotate_left 2
                        · (simp only [List.getElem?_toArray, List.getElem?_cons_zero, List.getElem?_cons_succ]; rfl)
                        · kernel_rfl
                        · exact fun _ _ _ h => h
                        · rfl
                        · (intro w hSw; (try dsimp only at hSw); go_simp; (try with_reducible rfl))
                        · exact HSA
                        (try simp only [Act.put, List.setIfInBounds_toArray, List.set_cons_zero, List.set_cons_succ])
                        refine' ordG_take 9 (oi := _) (v := _) ?_ ?_ ?_ (Or.inl ⟨?_, ?_⟩) ?_ ?_
                        rotate_left 2
                        · (simp only [List.getElem?_toArray, List.getElem?_cons_zero, List.getElem?_cons_succ]; rfl)
                        · kernel_rfl
                        · exact fun _ _ _ h => h
                        · rfl
                        · (intro w hSw; (try dsimp only at hSw); go_simp; (try with_reducible rfl))
                        · exact HSA
                        (try simp only [Act.put, List.setIfInBounds_toArray, List.set_cons_zero, List.set_cons_succ])
                        (try simp only [HDF, decide_false])
                        refine' ordG_take 10 (oi := _) (v := _) ?_ ?_ ?_ (Or.inl ⟨?_, ?_⟩) ?_ ?_
                        rotate_left 2
                        · (simp only [List.getElem?_toArray, List.getElem?_cons_zero, List.getElem?_cons_succ]; rfl)
                        · kernel_rfl
                        · exact fun _ _ _ h => h
                        · rfl
                        · (intro w hSw; (try dsimp only at hSw); go_simp; (try with_reducible rfl))
                        · exact HSA
                        (try simp only [Act.put, List.setIfInBounds_toArray, List.set_cons_zero, List.set_cons_succ])
                        refine' ordG_take 11 (oi := _) (v := _) ?_ ?_ ?_ (Or.inl ⟨?_, ?_⟩) ?_ ?_
                        rotate_left 2
                        · (simp only [List.getElem?_toArray, List.getElem?_cons_zero, List.getElem?_cons_succ]; rfl)
                        · kernel_rfl
                        · exact fun _ _ _ h => h
                        · rfl
                        · (intro w hSw; (try dsimp only at hSw); go_simp; (try with_reducible rfl))
                        · exact HSA
                        (try simp only [Act.put, List.setIfInBounds_toArray, List.set_cons_zero, List.set_cons_succ])
                        refine' ordG_take 12 (oi := _) (v := _) ?_ ?_ ?_ (Or.inl ⟨?_, ?_⟩) ?_ ?_
                        rotate_left 2
                        · (simp only [List.getElem?_toArray, List.getElem?_cons_zero, List.getElem?_cons_succ]; rfl)
                        · kernel_rfl
                        · exact fun _ _ _ h => h
                        · rfl
                        · (intro w hSw; (try dsimp only at hSw); go_simp; (try with_reducible rfl))
                        · exact HSA
                        (try simp only [Act.put, List.setIfInBounds_toArray, List.set_cons_zero, List.set_cons_succ])
                        refine' ordG_take 13 (oi := _) (v := _) ?_ ?_ ?_ (Or.inl ⟨?_, ?_⟩) ?_ ?_
                        rotate_left 2
                        · (simp only [List.getElem?_toArray, List.getElem?_cons_zero, List.getElem?_cons_succ]; rfl)
                        · kernel_rfl
                        · exact fun _ _ _ h => h
                        · rfl
                        · (intro w hSw; (try dsimp only at hSw); go_simp; (try with_reducible rfl))
                        · exact HSA
                        (try simp only [Act.put, List.setIfInBounds_toArray, List.set_cons_zero, List.set_cons_succ])
                        refine' ordG_take 14 (oi := _) (v := _) ?_ ?_ ?_ (Or.inl ⟨?_, ?_⟩) ?_ ?_
                        rotate_left 2
                        · (simp only [List.getElem?_toArray, List.getElem?_cons_zero, List.getElem?_cons_succ]; rfl)
                        · kernel_rfl
                        · exact fun _ _ _ h => h
                        · rfl
                        · (intro w hSw; (try dsimp only at hSw); go_simp; (try with_reducible rfl))
                        · exact HSA
                        (try simp only [Act.put, List.setIfInBounds_toArray, List.set_cons_zero, List.set_cons_succ])
                        refine' ordG_take 15 (oi := _) (v := _) ?_ ?_ ?_ (Or.inl ⟨?_, ?_⟩) ?_ ?_
                        rotate_left 2
                        · (simp only [List.getElem?_toArray, List.getElem?_cons_zero, List.getElem?_cons_succ]; rfl)
                        · kernel_rfl
                        · exact fun _ _ _ h => h
                        · rfl
                        · (intro w hSw; (try dsimp only at hSw); go_simp; (try with_reducible rfl))
                        · exact HSA
                        (try simp only [Act.put, List.setIfInBounds_toArray, List.set_cons_zero, List.set_cons_succ])
                        refine' ordG_take 16 (oi := _) (v := _) ?_ ?_ ?_ (Or.inl ⟨?_, ?_⟩) ?_ ?_
                        rotate_left 2
                        · (simp only [List.getElem?_toArray, List.getElem?_cons_zero, List.getElem?_cons_succ]; rfl)
                        · kernel_rfl
                        · exact fun _ _ _ h => h
                        · rfl
                        · (intro w hSw; (try dsimp only at hSw); go_simp; (try with_reducible rfl))
                        · exact HSA
                        (try simp only [Act.put, List.setIfInBounds_toArray, List.set_cons_zero, List.set_cons_succ])
                        refine' ordG_take 17 (oi := _) (v := _) ?_ ?_ ?_ (Or.inl ⟨?_, ?_⟩) ?_ ?_
                        rotate_left 2
                        · (simp only [List.getElem?_toArray, List.getElem?_cons_zero, List.getElem?_cons_succ]; rfl)
                        · kernel_rfl
                        · exact fun _ _ _ h => h
                        · rfl
                        · (intro w hSw; (try dsimp only at hSw); go_simp; (try with_reducible rfl))
                        · exact HSA
                        (try simp only [Act.put, List.setIfInBounds_toArray, List.set_cons_zero, List.set_cons_succ])
                        refine' ordG_take 19 (oi := _) (v := _) ?_ ?_ ?_ (Or.inl ⟨?_, ?_⟩) ?_ ?_
                        rotate_left 2
                        · (simp only [List.getElem?_toArray, List.getElem?_cons_zero, List.getElem?_cons_succ]; rfl)
                        · kernel_rfl
                        · exact fun _ _ _ h => h
                        · rfl
                        · (intro w hSw; (try dsimp only at hSw); go_simp; (try with_reducible rfl))
                        · exact HSA
                        (try simp only [Act.put, List.setIfInBounds_toArray, List.set_cons_zero, List.set_cons_succ])
                        refine' ordG_take 20 (oi := _) (v := _) ?_ ?_ ?_ (Or.inl ⟨?_, ?_⟩) ?_ ?_
                        rotate_left 2
                        · (simp only [List.getElem?_toArray, List.getElem?_cons_zero, List.getElem?_cons_succ]; rfl)
                        · kernel_rfl
                        · exact fun _ _ _ h => h
                        · rfl
                        · (intro w hSw; (try dsimp only at hSw); go_simp; (try with_reducible rfl))
                        · exact HSA
                        (try simp only [Act.put, List.setIfInBounds_toArray, List.set_cons_zero, List.set_cons_succ])
                        refine' ordG_take 21 (oi := _) (v := _) ?_ ?_ ?_ (Or.inl ⟨?_, ?_⟩) ?_ ?_
                        rotate_left 2
                        · (simp only [List.getElem?_toArray, List.getElem?_cons_zero, List.getElem?_cons_succ]; rfl)
                        · kernel_rfl
                        · exact fun _ _ _ h => h
                        · rfl
                        · (intro w hSw; (try dsimp only at hSw); go_simp; (try with_reducible rfl))
                        · exact HSA
                        (try simp only [Act.put, List.setIfInBounds_toArray, List.set_cons_zero, List.set_cons_succ])
                        refine' ordG_take 22 (oi := _) (v := _) ?_ ?_ ?_ (Or.inl ⟨?_, ?_⟩) ?_ ?_
                        rotate_left 2
                        · (simp only [List.getElem?_toArray, List.getElem?_cons_zero, List.getElem?_cons_succ]; rfl)
                        · kernel_rfl
                        · exact fun _ _ _ h => h
                        · rfl
                        · (intro w hSw; (try dsimp only at hSw); go_simp; (try with_reducible rfl))
                        · exact HSA
                        (try simp only [Act.put, List.setIfInBounds_toArray, List.set_cons_zero, List.set_cons_succ])
                        refine ordG_all (rs := [18]) (by kernel_rfl) (by simp) (by decide) ?_
                        refine' ordG_cons (o := _) ?_ (fun K hK => ?_) ordG_nil
                        rotate_left 1
                        · (simp only [List.getElem?_toArray, List.getElem?_cons_zero, List.getElem?_cons_succ]; rfl)
                        go_simp
                        go_at_call 33
                        refine (HM.out _ ((XB.out.trans HFR.out.x).trans HX0.out)).mono ?_
                        rintro e w6 ⟨rfl, hx6⟩
                        have HX6 := hd (HX0.out.trans hx6)
                        go_simp
                        refine hK.out _ _ (HS9.out _ HX6.out) ?_
                        clear hK K HSA hx6
                        (try simp only [Act.put, List.setIfInBounds_toArray, List.set_cons_zero, List.set_cons_succ])
                        have HSA := HS9.out _ HX6.out
                        refine' ordG_take 23 (oi := _) (v := _) ?_ ?_ ?_ (Or.inl ⟨?_, ?_⟩) ?_ ?_
                        rotate_left 2
                        · (simp only [List.getElem?_toArray, List.getElem?_cons_zero, List.getElem?_cons_succ]; rfl)
                        · kernel_rfl
                        · exact fun _ _ _ h => h
                        · rfl
                        · (intro w hSw; (try dsimp only at hSw); go_simp; (try with_reducible rfl))
                        · exact HSA
                        (try simp only [Act.put, List.setIfInBounds_toArray, List.set_cons_zero, List.set_cons_succ])
                        refine ordG_last (by kernel_rfl) (by kernel_rfl) ?_
                        refine' wpOp_step (o := _) ?_ (fun K hK => ?_)
                        rotate_left 1
                        · (simp only [List.getElem?_toArray, List.getElem?_cons_zero, List.getElem?_cons_succ]; rfl)
                        go_simp
                        refine hK _ _ ?_
                        clear hK K HSA HM
                        (try simp only [Act.put, List.setIfInBounds_toArray, List.set_cons_zero, List.set_cons_succ])
                        go_wp2
                        go_roundw
                        case rel => exact ⟨j + 1, F, ln, by go_num, by omega, HFR.out.ext HX6.out, HJ2, HCS, HQ⟩
                        case measure => simp [intOf]; omega
                  · have HDC : (s < cb) = True := eq_true (by omega)
                    have HJ2 := hd (HSK.out (fun h => by omega))
                    clear hcq2 hcs HSK HPU HCP HQP HM HJB HQQ
                    go_wp2_with fail
                    go_quiet (fail)
                    go_wp2_with fail
                    refine wp_region_sink (fun w' => (w').cell? ⟨w.heap.size, 0, none⟩ = some (.slice A n c) ∧ (w').cell? (aq.add k) = some (.int .i64 (q : Int)) ∧ (w').cell? ⟨g, b, none⟩ = some (.int .i64 fb)) 24 25 #[false, false, false, false, false, false, false, false, false, false, false, false, false, false, false, false, false, false, false, false, false, false, false, false, false] (by kernel_rfl) (by kernel_rfl) (by kernel_rfl) ?_
                    have HX0 := hd ((Ext.refl wr).drewN nq).drew
                    have HSA := HS9.out _ HX0.out
                    refine' ordG_take 0 (oi := _) (v := _) ?_ ?_ ?_ (Or.inl ⟨?_, ?_⟩) ?_ ?_
                    rotate_left 2
                    · (simp only [List.getElem?_toArray, List.getElem?_cons_zero]; rfl)
                    · kernel_rfl
                    · exact fun _ _ _ h => h
                    · rfl
                    · (intro w hSw; (try dsimp only at hSw); go_simp; (try with_reducible rfl))
                    · exact HSA
                    (try simp only [Act.put, List.setIfInBounds_toArray, List.set_cons_zero, List.set_cons_succ])
                    refine' ordG_take 2 (oi := _) (v := _) ?_ ?_ ?_ (Or.inl ⟨?_, ?_⟩) ?_ ?_
                    rotate_left 2
                    · (simp only [List.getElem?_toArray, List.getElem?_cons_zero, List.getElem?_cons_succ]; rfl)
                    · kernel_rfl
                    · exact fun _ _ _ h => h
                    · rfl
                    · (intro w hSw; (try dsimp only at hSw); go_simp; (try with_reducible rfl))
                    · exact HSA
                    (try simp only [Act.put, List.setIfInBounds_toArray, List.set_cons_zero, List.set_cons_succ])
                    refine ordG_all (rs := [1]) (by kernel_rfl) (by simp) (by decide) ?_
                    refine' ordG_cons (o := _) ?_ (fun K hK => ?_) ordG_nil
                    rotate_left 1
                    · (simp only [List.getElem?_toArray, List.getElem?_cons_zero, List.getElem?_cons_succ]; rfl)
                    go_simp
                    go_at_call 40
                    refine (HC.out _).mono ?_
                    rintro e w5 ⟨rfl, rfl⟩
                    go_simp
                    refine hK.out _ _ HSA ?_
                    clear hK K
                    (try simp only [Act.put, List.setIfInBounds_toArray, List.set_cons_zero, List.set_cons_succ])
                    refine' ordG_take 3 (oi := _) (v := _) ?_ ?_ ?_ (Or.inl ⟨?_, ?_⟩) ?_ ?_
                    rotate_left 2
                    · (simp only [List.getElem?_toArray, List.getElem?_cons_zero, List.getElem?_cons_succ]; rfl)
                    · kernel_rfl
                    · exact fun _ _ _ h => h
                    · rfl
                    · (intro w hSw; (try dsimp only at hSw); go_simp; (try with_reducible rfl))
                    · exact HSA
                    (try simp only [Act.put, List.setIfInBounds_toArray, List.set_cons_zero, List.set_cons_succ])
                    refine' ordG_take 4 (oi := _) (v := _) ?_ ?_ ?_ (Or.inl ⟨?_, ?_⟩) ?_ ?_
                    rotate_left 2
                    · (simp only [List.getElem?_toArray, List.getElem?_cons_zero, List.getElem?_cons_succ]; rfl)
                    · kernel_rfl
                    · exact fun _ _ _ h => h
                    · rfl
                    · (intro w hSw; (try dsimp only at hSw); go_simp; (try with_reducible rfl))
                    · exact HSA
                    (try simp only [Act.put, List.setIfInBounds_toArray, List.set_cons_zero, List.set_cons_succ])
                    (try simp only [HDC, decide_false, decide_true])
                    refine' ordG_take 5 (oi := _) (v := _) ?_ ?_ ?_ (Or.inr ⟨?_, ?_⟩) ?_ ?_
                    rotate_left 2
                    · (simp only [List.getElem?_toArray, List.getElem?_cons_zero, List.getElem?_cons_succ]; rfl)
                    · kernel_rfl
                    · exact fun _ _ _ h => h
                    · rfl
                    · rfl
                    · exact HSA
                    (try simp only [Act.put, List.setIfInBounds_toArray, List.set_cons_zero, List.set_cons_succ])
                    refine' ordG_take 6 (oi := _) (v := _) ?_ ?_ ?_ (Or.inr ⟨?_, ?_⟩) ?_ ?_
                    rotate_left 2
                    · (simp only [List.getElem?_toArray, List.getElem?_cons_zero, List.getElem?_cons_succ]; rfl)
                    · kernel_rfl
                    · exact fun _ _ _ h => h
                    · rfl
                    · rfl
                    · exact HSA
                    (try simp only [Act.put, List.setIfInBounds_toArray, List.set_cons_zero, List.set_cons_succ])
                    refine' ordG_take 7 (oi := _) (v := _) ?_ ?_ ?_ (Or.inr ⟨?_, ?_⟩) ?_ ?_
                    rotate_left 2
                    · (simp only [List.getElem?_toArray, List.getElem?_cons_zero, List.getElem?_cons_succ]; rfl)
                    · kernel_rfl
                    · exact fun _ _ _ h => h
                    · rfl
                    · rfl
                    · exact HSA
                    (try simp only [Act.put, List.setIfInBounds_toArray, List.set_cons_zero, List.set_cons_succ])
                    refine' ordG_take 8 (oi := _) (v := _) ?_ ?_ ?_ (Or.inr ⟨?_, ?_⟩) ?_ ?_
                    rotate_left 2
                    · (simp only [List.getElem?_toArray, List.getElem?_cons_zero, List.getElem?_cons_succ]; rfl)
                    · kernel_rfl
                    · exact fun _ _ _ h => h
                    · rfl
                    · rfl
                    · exact HSA
                    (try simp only [Act.put, List.setIfInBounds_toArray, List.set_cons_zero, List.set_cons_succ])
                    refine' ordG_take 9 (oi := _) (v := _) ?_ ?_ ?_ (Or.inr ⟨?_, ?_⟩) ?_ ?_
                    rotate_left 2
                    · (simp only [List.getElem?_toArray, List.getElem?_cons_zero, List.getElem?_cons_succ]; rfl)
                    · kernel_rfl
                    · exact fun _ _ _ h => h
                    · rfl
                    · rfl
                    · exact HSA
                    (try simp only [Act.put, List.setIfInBounds_toArray, List.set_cons_zero, List.set_cons_succ])
                    refine' ordG_take 10 (oi := _) (v := _) ?_ ?_ ?_ (Or.inl ⟨?_, ?_⟩) ?_ ?_
                    rotate_left 2
                    · (simp only [List.getElem?_toArray, List.getElem?_cons_zero, List.getElem?_cons_succ]; rfl)
                    · kernel_rfl
                    · exact fun _ _ _ h => h
                    · rfl
                    · (intro w hSw; (try dsimp only at hSw); go_simp; (try with_reducible rfl))
                    · exact HSA
                    (try simp only [Act.put, List.setIfInBounds_toArray, List.set_cons_zero, List.set_cons_succ])
                    refine' ordG_take 11 (oi := _) (v := _) ?_ ?_ ?_ (Or.inl ⟨?_, ?_⟩) ?_ ?_
                    rotate_left 2
                    · (simp only [List.getElem?_toArray, List.getElem?_cons_zero, List.getElem?_cons_succ]; rfl)
                    · kernel_rfl
                    · exact fun _ _ _ h => h
                    · rfl
                    · (intro w hSw; (try dsimp only at hSw); go_simp; (try with_reducible rfl))
                    · exact HSA
                    (try simp only [Act.put, List.setIfInBounds_toArray, List.set_cons_zero, List.set_cons_succ])
                    refine' ordG_take 12 (oi := _) (v := _) ?_ ?_ ?_ (Or.inr ⟨?_, ?_⟩) ?_ ?_
                    rotate_left 2
                    · (simp only [List.getElem?_toArray, List.getElem?_cons_zero, List.getElem?_cons_succ]; rfl)
                    · kernel_rfl
                    · exact fun _ _ _ h => h
                    · rfl
                    · rfl
                    · exact HSA
                    (try simp only [Act.put, List.setIfInBounds_toArray, List.set_cons_zero, List.set_cons_succ])
                    refine' ordG_take 13 (oi := _) (v := _) ?_ ?_ ?_ (Or.inr ⟨?_, ?_⟩) ?_ ?_
                    rotate_left 2
                    · (simp only [List.getElem?_toArray, List.getElem?_cons_zero, List.getElem?_cons_succ]; rfl)
                    · kernel_rfl
                    · exact fun _ _ _ h => h
                    · rfl
                    · rfl
                    · exact HSA
                    (try simp only [Act.put, List.setIfInBounds_toArray, List.set_cons_zero, List.set_cons_succ])
                    refine' ordG_take 14 (oi := _) (v := _) ?_ ?_ ?_ (Or.inr ⟨?_, ?_⟩) ?_ ?_
                    rotate_left 2
                    · (simp only [List.getElem?_toArray, List.getElem?_cons_zero, List.getElem?_cons_succ]; rfl)
                    · kernel_rfl
                    · exact fun _ _ _ h => h
                    · rfl
                    · rfl
                    · exact HSA
                    (try simp only [Act.put, List.setIfInBounds_toArray, List.set_cons_zero, List.set_cons_succ])
                    refine' ordG_take 15 (oi := _) (v := _) ?_ ?_ ?_ (Or.inr ⟨?_, ?_⟩) ?_ ?_
                    rotate_left 2
                    · (simp only [List.getElem?_toArray, List.getElem?_cons_zero, List.getElem?_cons_succ]; rfl)
                    · kernel_rfl
                    · exact fun _ _ _ h => h
                    · rfl
                    · rfl
                    · exact HSA
                    (try simp only [Act.put, List.setIfInBounds_toArray, List.set_cons_zero, List.set_cons_succ])
                    refine' ordG_take 16 (oi := _) (v := _) ?_ ?_ ?_ (Or.inr ⟨?_, ?_⟩) ?_ ?_
                    rotate_left 2
                    · (simp only [List.getElem?_toArray, List.getElem?_cons_zero, List.getElem?_cons_succ]; rfl)
                    · kernel_rfl
                    · exact fun _ _ _ h => h
                    · rfl
                    · rfl
                    · exact HSA
                    (try simp only [Act.put, List.setIfInBounds_toArray, List.set_cons_zero, List.set_cons_succ])
                    refine' ordG_take 17 (oi := _) (v := _) ?_ ?_ ?_ (Or.inr ⟨?_, ?_⟩) ?_ ?_
                    rotate_left 2
                    · (simp only [List.getElem?_toArray, List.getElem?_cons_zero, List.getElem?_cons_succ]; rfl)
                    · kernel_rfl
                    · exact fun _ _ _ h => h
                    · rfl
                    · rfl
                    · exact HSA
                    (try simp only [Act.put, List.setIfInBounds_toArray, List.set_cons_zero, List.set_cons_succ])
                    refine' ordG_take 18 (oi := _) (v := _) ?_ ?_ ?_ (Or.inr ⟨?_, ?_⟩) ?_ ?_
                    rotate_left 2
                    · (simp only [List.getElem?_toArray, List.getElem?_cons_zero, List.getElem?_cons_succ]; rfl)
                    · kernel_rfl
                    · exact fun _ _ _ h => h
                    · rfl
                    · rfl
                    · exact HSA
                    (try simp only [Act.put, List.setIfInBounds_toArray, List.set_cons_zero, List.set_cons_succ])
                    refine' ordG_take 19 (oi := _) (v := _) ?_ ?_ ?_ (Or.inr ⟨?_, ?_⟩) ?_ ?_
                    rotate_left 2
                    · (simp only [List.getElem?_toArray, List.getElem?_cons_zero, List.getElem?_cons_succ]; rfl)
                    · kernel_rfl
                    · exact fun _ _ _ h => h
                    · rfl
                    · rfl
                    · exact HSA
                    (try simp only [Act.put, List.setIfInBounds_toArray, List.set_cons_zero, List.set_cons_succ])
                    refine' ordG_take 20 (oi := _) (v := _) ?_ ?_ ?_ (Or.inr ⟨?_, ?_⟩) ?_ ?_
                    rotate_left 2
                    · (simp only [List.getElem?_toArray, List.getElem?_cons_zero, List.getElem?_cons_succ]; rfl)
                    · kernel_rfl
                    · exact fun _ _ _ h => h
                    · rfl
                    · rfl
                    · exact HSA
                    (try simp only [Act.put, List.setIfInBounds_toArray, List.set_cons_zero, List.set_cons_succ])
                    refine' ordG_take 21 (oi := _) (v := _) ?_ ?_ ?_ (Or.inr ⟨?_, ?_⟩) ?_ ?_
                    rotate_left 2
                    · (simp only [List.getElem?_toArray, List.getElem?_cons_zero, List.getElem?_cons_succ]; rfl)
                    · kernel_rfl
                    · exact fun _ _ _ h => h
                    · rfl
                    · rfl
                    · exact HSA
                    (try simp only [Act.put, List.setIfInBounds_toArray, List.set_cons_zero, List.set_cons_succ])
                    refine' ordG_take 22 (oi := _) (v := _) ?_ ?_ ?_ (Or.inr ⟨?_, ?_⟩) ?_ ?_
                    rotate_left 2
                    · (simp only [List.getElem?_toArray, List.getElem?_cons_zero, List.getElem?_cons_succ]; rfl)
                    · kernel_rfl
                    · exact fun _ _ _ h => h
                    · rfl
                    · rfl
                    · exact HSA
                    (try simp only [Act.put, List.setIfInBounds_toArray, List.set_cons_zero, List.set_cons_succ])
                    refine' ordG_take 23 (oi := _) (v := _) ?_ ?_ ?_ (Or.inr ⟨?_, ?_⟩) ?_ ?_
                    rotate_left 2
                    · (simp only [List.getElem?_toArray, List.getElem?_cons_zero, List.getElem?_cons_succ]; rfl)
                    · kernel_rfl
                    · exact fun _ _ _ h => h
                    · rfl
                    · rfl
                    · exact HSA
                    (try simp only [Act.put, List.setIfInBounds_toArray, List.set_cons_zero, List.set_cons_succ])
                    refine ordG_last (by kernel_rfl) (by kernel_rfl) ?_
                    refine' wpOp_step (o := _) ?_ (fun K hK => ?_)
                    rotate_left 1
                    · (simp only [List.getElem?_toArray, List.getElem?_cons_zero, List.getElem?_cons_succ]; rfl)
                    go_simp
                    refine hK _ _ ?_
                    clear hK K HSA
                    (try simp only [Act.put, List.setIfInBounds_toArray, List.set_cons_zero, List.set_cons_succ])
                    go_wp2
                    go_roundw
                    case rel => exact ⟨j + 1, F, ln, by go_num, by omega, HFR.out.ext HX0.out, HJ2, HCS, HQ⟩
                    case measure => simp [intOf]; omega
                · obtain rfl : j = 2 := by omega
                  have HBX2 := hd ((HJ.out.h2 (Nat.le_refl _)).weak (S' := fun b => ∃ y, y < x + 1 ∧ b = q ^^^ 2 ^ y) (fun P hP => by
                    obtain ⟨y, hy, e⟩ := hP
                    by_cases e2 : y = x
                    · subst e2; exact .inr e
                    · exact .inl ⟨y, by omega, e⟩))
                  clear hF
                  go_wp2
                  go_roundw
                  case rel => exact ⟨x + 1, F, ln, by go_num, by omega, HFR.out, HBX2, HCS, HQ⟩
                  case measure => simp [intOf]; omega
            · obtain rfl : x = n := by omega
              have HBN := hd (show Bfs (eP ds x rev s) (dP x rev s) p F ln (k + 1) (fun _ => False) from by
                obtain ⟨hk', hq'⟩ := HQ.out
                exact HBF.out.next hk' (fun P _ hE => by rw [hq'] at hE; exact eP_from hE))
              go_wp2
              go_roundw
              case rel => exact ⟨k + 1, F, ln, by go_num, by omega, HFR.out, HBN, HCS⟩
              case measure => simp [intOf]; omega
        · obtain rfl : k = ln.length := by omega
          have HFD := hd HBF.out.done
          have HXX := hd (XB.out.trans HFR.out.x)
          have HOF := hd (own_rebase (ownI_ownP HFR.out.f) (by have := XB.out.size; omega) : OwnI wr w.heap.size 3 (.slice (some ⟨g, 0, none⟩) p p) F)
          go_wp2
          go_ret
          exact ⟨g, F, rfl, HOF.out, HFD.out, HXX.out⟩
end Go.Proofs.Ytapgpjhogdmjbaa
