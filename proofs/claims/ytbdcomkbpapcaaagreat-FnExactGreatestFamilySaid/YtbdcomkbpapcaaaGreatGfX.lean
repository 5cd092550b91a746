import Derived.Test.YtbdcomkbpapcaaaGreatGfW
/-
  Greatest families, the reference's side: shrinking, walked. Conditions: at most 60 clauses of literals within 12, at most six variables.
-/

namespace Go.Proofs.YtbdcomkbpapcaaaGreat
open Go.RowKit Seed
def RetShr (w : World) (L : List (List Int)) : Ending → World → Prop := fun e w' => ∃ Aa na ca Ar nr cr Ac nc cc Al nl cl, e = .returned (.agg #[.slice Aa na ca, .slice Ar nr cr, .slice Ac nc cc, .slice Al nl cl]) ∧ RdSS w' (.slice Al nl cl) L ∧ Ext w w'
theorem b4 {w : World} {b : Nat} {x y z t : Value} {e : TypeId} (h : w.heap[b]? = some (.cells #[x, y, z, t] e (0, 0))) : w.cell? ⟨b, 0, none⟩ = some x ∧ w.cell? ⟨b, 1, none⟩ = some y ∧ w.cell? ⟨b, 2, none⟩ = some z ∧ w.cell? ⟨b, 3, none⟩ = some t ∧ w.frozen? ⟨b, 0, none⟩ = false ∧ w.frozen? ⟨b, 1, none⟩ = false ∧ w.frozen? ⟨b, 2, none⟩ = false ∧ w.frozen? ⟨b, 3, none⟩ = false := by
  simp [World.cell?, World.frozen?, h]
theorem b4x {w w' : World} {b : Nat} {x y z t : Value} {e : TypeId} (hb : w.heap.size = b) (hx : Ext (w.alloc (.cells #[x, y, z, t] e)) w') : w'.heap[b]? = some (.cells #[x, y, z, t] e (0, 0)) := by
  subst hb
  exact hx.heap (heap_n1 w _)
theorem add_gk (g k : Nat) : (⟨g, 0, none⟩ : Addr).add k = ⟨g, k, none⟩ := by
  unfold Addr.add
  split
  · rename_i h; rw [h]
  · simp
theorem heap_z (w : World) (o o' : Obj) : ((w.alloc o).alloc o').heap[w.heap.size + 1]? = some o' := by
  have := heap_n1 (w.alloc o) o'
  rwa [World.size_alloc] at this
set_option maxRecDepth 100000 in
set_option maxHeartbeats 6400000 in
theorem s_l13Shrink (n : Nat) (cs : List (List Int)) (q : Nat) (v : Value) (w : World) (hn : n ≤ 6) (hl : cs.length ≤ 60) (hc : Hid (∀ c ∈ cs, c.length ≤ 1000000 ∧ ∀ l ∈ c, -12 ≤ l ∧ l ≤ 12)) (hq : q ≤ 6) (hv : Rd_Cnf w v ⟨(n : Int), cs⟩) :
    Calls Tryz.prog 16 #[v, .int .i64 (q : Int)] w (RetShr w (famL cs n q)) := by
  have HV := hd hv
  obtain ⟨A, c, rfl⟩ := hv.form
  simp only at *
  clear hv
  have HSC : Hid (∀ w' : World, Ext w w' → Calls Tryz.prog 28 #[.agg #[.int .i64 (n : Int), .slice A cs.length c], .int .i64 (q : Int)] w' (RetAll w' (allL cs n q))) := hd fun w' hx => s_l13Sorted n cs q _ w' hn hl hc hq (HV.out.ext hx)
  have HKC : Hid (∀ (w' : World) (L : List (List Int)) (a : List Int) (lv av : Value), Ext w w' → RdSS w' lv L → Asc L → Hid (∀ b ∈ L, Ris (n : Int) b) → L.length ≤ 729 → RowR w' (av, a) → Ris (n : Int) a → Calls Tryz.prog 29 #[.agg #[.int .i64 (n : Int), .slice A cs.length c], .int .i64 (q : Int), lv, av] w' (RetX w' (.bool (keepB n q L a)))) := hd fun w' L a lv av hx h1 h2 h3 h4 h5 h6 => s_l13Keeps n cs q L a _ lv av w' hn hq (HV.out.ext hx) h1 h2 h3 h4 h5 h6
  have HAA : Hid (Asc (allL cs n q)) := hd (allL_asc cs n q)
  have HAL : Hid ((allL cs n q).length ≤ 729) := hd (allL_len hn)
  have HAR : Hid (∀ b ∈ allL cs n q, Ris (n : Int) b) := hd fun b h => allL_ris h
  have HFM : Hid (famL cs n q = shrL n q (allL cs n q)) := hd rfl
  rw [HFM.out]
  generalize allL cs n q = AL at *
  go_enter Tryz.func16, Tryz.ntmps16
  go_wp2_with fail
  refine (HSC.out _ (by repeat (first | exact Ext.refl _ | apply Ext.drew | refine Ext.alloc ?_ _))).mono ?_
  rintro e w1 ⟨aA, cA, zs, rfl, ho1, hr1, hs1, hx1⟩
  have X1 := hd ((((Ext.refl w).alloc _).alloc _).trans hx1)
  have HO1 := hd (own_rebase ho1 (by simp; omega) : OutZ w1 w.heap.size _ zs)
  have HR1 := hd hr1
  have HS1 := hd hs1
  have hzl1 : zs.length ≤ AL.length := Nat.le_of_eq (rows_take_len hs1)
  have hzl2 : AL.length ≤ zs.length := Nat.le_of_eq (rows_take_len hs1).symm
  have hzl' := HAL.out
  have hsz := X1.out.size
  have HZ1 := hd (hx1.heap (heap_z _ _ _) : w1.heap[w.heap.size + 1]? = some (.cells #[.slice none 0 0, .slice none 0 0, .slice none 0 0, .slice none 0 0] 39 (0, 0)))
  have HF1 := hd (fun w' (hx : Ext w1 w') => blk2 ((hx1.trans hx).heap (heap_n2 w _ _)))
  clear ho1 hr1 hs1 hx1
  go_wp2_with (at_make; refine mkI (n := zs.length) _ rfl _ _ rfl rfl rfl (by omega) rfl ?_; intro w2 hown2 hx2; have hB2 := b4x (b := w1.heap.size + 1) (by simp) hx2; obtain ⟨m0, m1, m2, m3, f0, f1, f2, f3⟩ := b4 hB2)
  have HS0 := hd (Shw.start HO1.out HR1.out rfl hB2 (by simpa using hown2) ((Ext.new _ _).trans hx2))
  clear hown2 hx2 hB2
  go_wp2
  clear m0 m1 m2 m3 f0 f1 f2 f3
  go_loopw [6] (fun rv wr => ∃ (r : Nat) (rs : List Int) (cn : List Int) (vC : Value) (vL : Value) (us : List Row), rv = .int .i64 (r : Int) ∧ 1 ≤ r ∧ us.length + r ≤ zs.length + 1 ∧ rs.length = zs.length ∧ cn.length + 1 ≤ r ∧ Shw w1 wr w.heap.size (w1.heap.size + 1) (w1.heap.size + 1 + 1) (.slice (some aA) zs.length cA) zs.length rs vC cn vL us ∧ Hid (Sub AL (us.map Prod.snd)) ∧ Hid (shrL n q AL = shrL n q (us.map Prod.snd)) ∧ Hid (∀ i (h : i < AL.length) (h' : i < rs.length), (0 < rs[i] ↔ AL[i] ∉ us.map Prod.snd))) (fun rv _ => zs.length + 2 - (intOf rv).toNat)
  case atStart => exact ⟨1, _, _, _, _, _, rfl, by omega, by omega, List.length_replicate, by simp, HS0.out, hd (by rw [HS1.out]; exact sub_refl _), hd (by rw [HS1.out]), hd (fun i h h' => by rw [HS1.out]; simp)⟩
  case round =>
    clear HS0
    obtain ⟨r, rs, cn, vC, vL, us, rfl, hr1, hur, hrl, hcn, hS, HSB, HSH, HMK⟩ := hrel
    have HS := hd hS
    have hrn : (r : Int) ≤ 730 := by omega
    obtain ⟨wo, rfl⟩ : ∃ wo : World, wo = wr := ⟨_, rfl⟩
    have HVL : Hid (∀ k, vL.ownBlock = some k → k < wo.heap.size) := hd fun k hk => (own_blocks hS.l k hk).2
    have HW1 := hd hS.x.size
    have O0 : Hid (OutZ (wo.alloc (.cells #[] 37)) wo.heap.size (.slice (some ⟨wo.heap.size, 0, none⟩) 0 0) []) := hd (outZ_emp (heap_n1 _ _) (Nat.le_refl _))
    have HSA := hd (hS.ext (Ext.new wo (.cells #[] 37)))
    clear hS
    obtain ⟨L, hL⟩ : ∃ L, us.map Prod.snd = L := ⟨_, rfl⟩
    have HL := hd hL
    rw [hL] at HSB HSH HMK
    clear hL
    have HLR : Hid (∀ b ∈ L, Ris (n : Int) b) := hd fun b hb => HAR.out b (HSB.out.mem hb)
    have HLA := hd (HSB.out.asc HAA.out)
    have HLL : Hid (L.length ≤ 729) := hd (Nat.le_trans HSB.out.len HAL.out)
    go_wp2
    go_loopw [9, 8, 7] (fun iv cv nv wr => ∃ (k ct : Nat) (ns : List Row) (an : Addr) (cc : Nat) (rs : List Int), iv = .int .i64 (k : Int) ∧ cv = .int .i64 (ct : Int) ∧ nv = .slice (some an) ns.length cc ∧ k ≤ zs.length ∧ ct ≤ k ∧ rs.length = zs.length ∧ wo.heap.size ≤ wr.heap.size ∧ Hid (ct = ((AL.take k).filter (gonL n q L)).length) ∧ Hid (ns.map Prod.snd = (AL.take k).filter (outL n q L)) ∧ OutZ wr wo.heap.size (.slice (some an) ns.length cc) ns ∧ Hid (∀ z ∈ ns, RowR w1 z) ∧ Shw w1 wr w.heap.size (w1.heap.size + 1) (w1.heap.size + 1 + 1) (.slice (some aA) zs.length cA) zs.length rs vC cn vL us ∧ Hid (∀ i (h : i < AL.length) (h' : i < rs.length), (0 < rs[i] ↔ if i < k then outL n q L AL[i] = false else AL[i] ∉ L))) (fun iv _ _ _ => zs.length - (intOf iv).toNat)
    case atStart => exact ⟨0, 0, [], _, _, rs, rfl, rfl, rfl, by omega, by omega, hrl, by simp, hd rfl, hd rfl, O0.out, hd (fun z hz => by cases hz), HSA.out, hd (fun i h h' => by rw [if_neg (by omega)]; exact HMK.out i h h')⟩
    case round =>
      clear O0 HSA HMK HS
      obtain ⟨k, ct, ns, an, cc, rs, rfl, rfl, rfl, hk, hck, hrl, hwl, HCT, HNS, ho, HNR, hS, HMK⟩ := hrel
      have HO := hd ho
      have HS := hd hS
      have HWL := hd hwl
      clear hwl
      obtain ⟨b0, b1, b2, b3⟩ := hS.cells
      have hnk : ns.length ≤ k := by
        have e := congrArg List.length HNS.out
        have h1 := List.length_filter_le (outL n q L) (AL.take k)
        rw [List.length_map] at e
        rw [List.length_take] at h1
        omega
      obtain ⟨f0, f1⟩ := HF1.out _ hS.x
      clear ho
      by_cases hlt : k < zs.length
      · have hka : k < AL.length := by omega
        have hkr : k < rs.length := by omega
        obtain ⟨a2, e2, hc0⟩ := OutZ.at_ (hd (own_ext HO1.out hS.x) : Hid (OutZ wr _ _ zs)) hlt
        injection e2 with e2
        subst e2
        obtain ⟨g2, e2, hcr⟩ := RdI.at_ (hd hS.r.rd) hkr
        injection e2 with e2
        subst e2
        rw [add_gk] at hcr
        have hrow := HR1.out _ (List.getElem_mem hlt)
        have hyk : zs[k].2 = AL[k] := by
          have e : (zs.map Prod.snd)[k]? = AL[k]? := by rw [HS1.out]
          rw [List.getElem?_map, List.getElem?_eq_getElem hlt, List.getElem?_eq_getElem hka] at e
          simpa using e
        have hmk := HMK.out k hka hkr
        rw [if_neg (by omega)] at hmk
        have HFO := hd (fil_snoc (p := outL n q L) hka)
        have HFG := hd (fil_snoc (p := gonL n q L) hka)
        have HYR := hd (HAR.out _ (List.getElem_mem hka))
        have HMK2 : Hid ((0 < rs[k] ↔ outL n q L AL[k] = false) → ∀ i (h : i < AL.length) (h' : i < rs.length), (0 < rs[i] ↔ if i < k + 1 then outL n q L AL[i] = false else AL[i] ∉ L)) := hd fun h => mk_same (P := fun b => outL n q L b = false) (Q := fun b => b ∉ L) HMK.out (fun _ _ => h)
        have HMK3 : Hid (outL n q L AL[k] = false → ∀ i (h : i < AL.length) (h' : i < (rs.set k (r : Int)).length), (0 < (rs.set k (r : Int))[i] ↔ if i < k + 1 then outL n q L AL[i] = false else AL[i] ∉ L)) := hd fun h => mk_set (P := fun b => outL n q L b = false) (Q := fun b => b ∉ L) HMK.out (by omega) (fun _ => h)
        rw [← hyk] at HFO HFG HYR HMK2 HMK3 hmk
        have HROW := hd hrow
        have hkz : (k : Int) < (zs.length : Int) := by omega
        have hkrs : (k : Int) < (rs.length : Int) := by omega
        clear hyk HMK hrow
        generalize zs[k] = zk at *
        obtain ⟨uk, yk⟩ := zk
        (try dsimp only at hc0); (try dsimp only at HFO HFG); (try dsimp only at HYR); (try dsimp only at HMK2 HMK3 hmk)
        obtain ⟨-, a3, c3, e3, -⟩ := HROW.out
        (try dsimp only at e3)
        subst e3
        by_cases hm : yk ∈ L
        · have HMM := hd hm
          have ht : ¬ (0 < rs[k]) := fun h => hmk.1 h hm
          have HT := hd ht
          obtain ⟨p, hp⟩ : ∃ p, keepB n q L yk = p := ⟨_, rfl⟩
          have HOL : Hid (outL n q L yk = p) := hd (by unfold outL; rw [decide_eq_true hm, hp]; rfl)
          have HGL : Hid (gonL n q L yk = !p) := hd (by unfold gonL; rw [decide_eq_true hm, hp]; rfl)
          have HKP := hd (fun (w' : World) (hx : Ext wr w') => rtx (HKC.out w' L yk vL (.slice (some a3) yk.length c3) (X1.out.trans (hS.x.trans hx)) (by have h := (hS.ext hx).rd; rw [HL.out] at h; exact h) HLA.out HLR HLL.out (HROW.out.ext (hS.x.trans hx)) HYR.out) (hd hp))
          clear hm hp hmk
          rw [HOL.out] at HFO HMK2 HMK3
          rw [HGL.out] at HFG
          have ht2 : ¬ (rs[k] > 0) := ht
          clear ht
          generalize hrk : rs[k] = tk at *
          clear hrk
          have HC : Hid (∀ w' : World, Ext wr w' → w'.cell? ⟨w.heap.size, 0, none⟩ = some (.int .i64 (n : Int)) ∧ w'.cell? ⟨w.heap.size, 1, none⟩ = some (.slice A cs.length c) ∧ w'.cell? ⟨w1.heap.size + 1, 0, none⟩ = some (.slice (some aA) zs.length cA) ∧ w'.cell? ⟨w1.heap.size + 1, 3, none⟩ = some vL ∧ w'.cell? (aA.add k) = some (.slice (some a3) yk.length c3)) := hd fun w' hx => ⟨hx.cell f0, hx.cell f1, hx.cell b0, hx.cell b3, hx.cell hc0⟩
          clear hS
          go_wp2_with fail
          refine wp_region_sink (fun w' => (w').cell? ⟨w.heap.size, 0, none⟩ = some (.int .i64 (n : Int)) ∧ (w').cell? ⟨w.heap.size, 1, none⟩ = some (.slice A cs.length c) ∧ (w').cell? ⟨w1.heap.size + 1, 0, none⟩ = some (.slice (some aA) zs.length cA) ∧ (w').cell? ⟨w1.heap.size + 1, 3, none⟩ = some vL ∧ (w').cell? (aA.add k) = some (.slice (some a3) yk.length c3)) 9 10 #[false, false, false, false, false, false, false, false, false, false] (by kernel_rfl) (by kernel_rfl) (by kernel_rfl) ?_
          have HS9 := HC.out _ (Ext.refl wr).drew
          refine' ordG_take 0 (oi := _) (v := _) ?_ ?_ ?_ (Or.inl ⟨?_, ?_⟩) ?_ ?_
          rotate_left 2
          · (simp only [List.getElem?_toArray, List.getElem?_cons_zero]; rfl)
          · kernel_rfl
          · exact fun _ _ _ h => h
          · rfl
          · (intro w hSw; (try dsimp only at hSw); go_simp; (try with_reducible rfl))
          · exact HS9
          (try simp only [Act.put, List.setIfInBounds_toArray, List.set_cons_zero, List.set_cons_succ])
          refine' ordG_take 1 (oi := _) (v := _) ?_ ?_ ?_ (Or.inl ⟨?_, ?_⟩) ?_ ?_
          rotate_left 2
          · (simp only [List.getElem?_toArray, List.getElem?_cons_zero, List.getElem?_cons_succ]; rfl)
          · kernel_rfl
          · exact fun _ _ _ h => h
          · rfl
          · (intro w hSw; (try dsimp only at hSw); go_simp; (try with_reducible rfl))
          · exact HS9
          (try simp only [Act.put, List.setIfInBounds_toArray, List.set_cons_zero, List.set_cons_succ])
          refine' ordG_take 2 (oi := _) (v := _) ?_ ?_ ?_ (Or.inl ⟨?_, ?_⟩) ?_ ?_
          rotate_left 2
          · (simp only [List.getElem?_toArray, List.getElem?_cons_zero, List.getElem?_cons_succ]; rfl)
          · kernel_rfl
          · exact fun _ _ _ h => h
          · rfl
          · (intro w hSw; (try dsimp only at hSw); go_simp; (try with_reducible rfl))
          · exact HS9
          (try simp only [Act.put, List.setIfInBounds_toArray, List.set_cons_zero, List.set_cons_succ])
          refine' ordG_take 3 (oi := _) (v := _) ?_ ?_ ?_ (Or.inl ⟨?_, ?_⟩) ?_ ?_
          rotate_left 2
          · (simp only [List.getElem?_toArray, List.getElem?_cons_zero, List.getElem?_cons_succ]; rfl)
          · kernel_rfl
          · exact fun _ _ _ h => h
          · rfl
          · (intro w hSw; (try dsimp only at hSw); go_simp; (try with_reducible rfl))
          · exact HS9
          (try simp only [Act.put, List.setIfInBounds_toArray, List.set_cons_zero, List.set_cons_succ])
          refine' ordG_take 4 (oi := _) (v := _) ?_ ?_ ?_ (Or.inl ⟨?_, ?_⟩) ?_ ?_
          rotate_left 2
          · (simp only [List.getElem?_toArray, List.getElem?_cons_zero, List.getElem?_cons_succ]; rfl)
          · kernel_rfl
          · exact fun _ _ _ h => h
          · rfl
          · (intro w hSw; (try dsimp only at hSw); go_simp; (try with_reducible rfl))
          · exact HS9
          (try simp only [Act.put, List.setIfInBounds_toArray, List.set_cons_zero, List.set_cons_succ])
          refine' ordG_take 5 (oi := _) (v := _) ?_ ?_ ?_ (Or.inl ⟨?_, ?_⟩) ?_ ?_
          rotate_left 2
          · (simp only [List.getElem?_toArray, List.getElem?_cons_zero, List.getElem?_cons_succ]; rfl)
          · kernel_rfl
          · exact fun _ _ _ h => h
          · rfl
          · (intro w hSw; (try dsimp only at hSw); go_simp; (try with_reducible rfl))
          · exact HS9
          (try simp only [Act.put, List.setIfInBounds_toArray, List.set_cons_zero, List.set_cons_succ])
          refine' ordG_take 6 (oi := _) (v := _) ?_ ?_ ?_ (Or.inl ⟨?_, ?_⟩) ?_ ?_
          rotate_left 2
          · (simp only [List.getElem?_toArray, List.getElem?_cons_zero, List.getElem?_cons_succ]; rfl)
          · kernel_rfl
          · exact fun _ _ _ h => h
          · rfl
          · (intro w hSw; (try dsimp only at hSw); go_simp; (try with_reducible rfl))
          · exact HS9
          (try simp only [Act.put, List.setIfInBounds_toArray, List.set_cons_zero, List.set_cons_succ])
          refine' ordG_take 7 (oi := _) (v := _) ?_ ?_ ?_ (Or.inl ⟨?_, ?_⟩) ?_ ?_
          rotate_left 2
          · (simp only [List.getElem?_toArray, List.getElem?_cons_zero, List.getElem?_cons_succ]; rfl)
          · kernel_rfl
          · exact fun _ _ _ h => h
          · rfl
          · (intro w hSw; (try dsimp only at hSw); go_simp; (try with_reducible rfl))
          · exact HS9
          (try simp only [Act.put, List.setIfInBounds_toArray, List.set_cons_zero, List.set_cons_succ])
          refine' ordG_take 8 (oi := _) (v := _) ?_ ?_ ?_ (Or.inl ⟨?_, ?_⟩) ?_ ?_
          rotate_left 2
          · (simp only [List.getElem?_toArray, List.getElem?_cons_zero, List.getElem?_cons_succ]; rfl)
          · kernel_rfl
          · exact fun _ _ _ h => h
          · rfl
          · (intro w hSw; (try dsimp only at hSw); go_simp; (try with_reducible rfl))
          · exact HS9
          (try simp only [Act.put, List.setIfInBounds_toArray, List.set_cons_zero, List.set_cons_succ])
          refine ordG_last (by kernel_rfl) (by kernel_rfl) ?_
          refine' wpOp_step (o := _) ?_ (fun K hK => ?_)
          rotate_left 1
          · (simp only [List.getElem?_toArray, List.getElem?_cons_zero, List.getElem?_cons_succ]; rfl)
          go_simp
          go_at_call 29
          refine (HKP.out _ (Ext.refl _).drew).mono ?_
          rintro e w5 ⟨rfl, hx5⟩
          have HX5 := hd (Ext.trans (Ext.refl wr).drew hx5)
          have HX6 : Hid (wo.heap.size ≤ w5.heap.size) := hd (by have := HX5.out.size; have := HWL.out; omega)
          have HS5 := hd (HS.out.ext HX5.out)
          have HO5 := hd (own_ext HO.out HX5.out)
          go_simp
          refine hK _ _ ?_
          clear hK K hx5
          (try simp only [Act.put, List.setIfInBounds_toArray, List.set_cons_zero, List.set_cons_succ])
          clear HS9 f0 f1 b0 b1 b2 b3 hc0 hcr
          cases p
          · have HMK4 := hd (HMK3.out rfl)
            have HFO2 : Hid (ns.map Prod.snd = (AL.take (k + 1)).filter (outL n q L)) := hd (by rw [HFO.out]; exact HNS.out)
            have HFG2 : Hid (ct + 1 = ((AL.take (k + 1)).filter (gonL n q L)).length) := hd (by rw [HFG.out]; simp [HCT.out])
            have hkr2 : k < rs.length := hkr
            obtain ⟨⟨u0, hst1⟩, hst2, hst3⟩ := HS5.out.mark hkr2 (r : Int)
            obtain ⟨b0, b1, b2, b3⟩ := HS5.out.cells
            have HS6 := hd hst3
            have HO6 := hd (own_grown HO5.out (grown_set (grown_refl w5 (some (w1.heap.size + 1 + 1))) k (.int .i64 (r : Int))) (fun kk x y => own_ne HO5.out HS5.out.r (by decide) x y))
            clear hst3
            go_wp2
            go_roundw
            case rel => exact ⟨k + 1, ct + 1, ns, an, cc, rs.set k (r : Int), by go_num, by go_num, rfl, by omega, by omega, by rw [List.length_set]; exact hrl, by simpa [World.setCell] using HX6.out, HFG2, HFO2, HO6.out, HNR, HS6.out, HMK4⟩
            case measure => simp [intOf]; omega
          · have HMK4 := hd (HMK2.out ⟨fun h => absurd h (by have := HT.out; omega), fun h => by cases h⟩)
            have HFO2 : Hid ((ns ++ [(Value.slice (some a3) yk.length c3, yk)]).map Prod.snd = (AL.take (k + 1)).filter (outL n q L)) := hd (by rw [HFO.out, List.map_append, HNS.out]; rfl)
            have HFG2 : Hid (ct = ((AL.take (k + 1)).filter (gonL n q L)).length) := hd (by rw [HFG.out]; simpa using HCT.out)
            obtain ⟨b0, b1, b2, b3⟩ := HS5.out.cells
            have hc5 : w5.cell? (aA.add k) = some (.slice (some a3) yk.length c3) := (HC.out _ HX5.out).2.2.2.2
            go_wp2_with (at_builtin; refine appZ _ (zs := ns) (ys := [(Value.slice (some a3) yk.length c3, yk)]) (lo := wo.heap.size) (own_ext HO5.out (Ext.new _ _)) (rdZ_at (us := [Value.slice (some a3) yk.length c3]) (heap_n1 _ _) (by simp)) (by intro u hu; obtain rfl := List.mem_singleton.1 hu; rfl) rfl _ _ rfl (by rfl) (by rfl) (by simp; omega) (by have := HO5.out; have h := HS5.out.x.size; rw [World.size_alloc]; have h2 := HX6.out; omega) ?_; intro v2 w6 ho2 hg2 hb2)
            have HO7 := HO5.out
            have HS7 := hd ((HS5.out.ext (Ext.new w5 (.cells #[.slice (some a3) yk.length c3] 37))).grown (own_ext HO7 (Ext.new _ _)) HW1.out hg2 (fun kk x y => by have h1 := HVL.out kk x; have h2 := ownZ_ge HO7 kk y; omega))
            have HR7 : Hid (∀ z ∈ ns ++ [((Value.slice (some a3) yk.length c3, yk) : Row)], RowR w1 z) := hd fun z hz => by
              rcases List.mem_append.1 hz with hz | hz
              · exact HNR.out z hz
              · obtain rfl := List.mem_singleton.1 hz
                exact HROW.out
            obtain ⟨a4, c4, rfl⟩ := outZ_some ho2 (by simp)
            have HO8 := hd ho2
            have HWL8 : Hid (wo.heap.size ≤ w6.heap.size) := hd (by have := hg2.size; have := HX6.out; rw [World.size_alloc] at *; omega)
            have hl8 : (ns ++ [((Value.slice (some a3) yk.length c3, yk) : Row)]).length ≤ k + 1 := by rw [List.length_append, List.length_singleton]; omega
            clear ho2 hg2 hb2 HO7
            generalize ns ++ [((Value.slice (some a3) yk.length c3, yk) : Row)] = ns7 at *
            go_wp2
            go_roundw
            case rel => exact ⟨k + 1, ct, ns7, a4, c4, rs, by go_num, rfl, rfl, by omega, by omega, hrl, HWL8.out, HFG2, HFO2, HO8.out, HR7, HS7.out, HMK4⟩
            case measure => simp [intOf]; omega
        · have HMM := hd hm
          have ht : 0 < rs[k] := hmk.2 hm
          have HOL : Hid (outL n q L yk = false) := hd (by unfold outL; rw [decide_eq_false hm]; rfl)
          have HGL : Hid (gonL n q L yk = false) := hd (by unfold gonL; rw [decide_eq_false hm]; rfl)
          rw [HOL.out] at HFO HMK2
          rw [HGL.out] at HFG
          have HMK4 := hd (HMK2.out ⟨fun _ => rfl, fun _ => ht⟩)
          have HFO2 : Hid (ns.map Prod.snd = (AL.take (k + 1)).filter (outL n q L)) := hd (by rw [HFO.out]; exact HNS.out)
          have HFG2 : Hid (ct = ((AL.take (k + 1)).filter (gonL n q L)).length) := hd (by rw [HFG.out]; exact HCT.out)
          have ht2 : rs[k] > 0 := ht
          clear hm hmk ht HMK2 HMK3 HFO HFG
          generalize hrk : rs[k] = tk at *
          clear hrk
          go_wp2
          go_roundw
          case rel => exact ⟨k + 1, ct, ns, an, cc, rs, by go_num, rfl, rfl, by omega, by omega, hrl, HWL.out, HFG2, HFO2, HO.out, HNR, HS.out, HMK4⟩
          case measure => simp [intOf]; omega
      · obtain rfl : k = zs.length := by omega
        have HTA : Hid (AL.take zs.length = AL) := hd (List.take_of_length_le (by omega))
        rw [HTA.out] at HCT HNS
        have HGN := hd (gon_none (n := n) (q := q) HSB.out)
        rw [← HCT.out] at HGN
        have HOU := hd (HSB.out.out (n := n) (q := q))
        rw [HOU.out] at HNS
        by_cases hz : ct = 0
        · have HFX : Hid (shrL n q AL = L) := hd (by rw [HSH.out]; exact shrL_yes (HGN.out.1 hz))
          have hz' : (ct : Int) = 0 := by omega
          clear hz
          obtain ⟨A8, c8, rfl, -⟩ := OwnI.form hS.c
          obtain ⟨A9, c9, rfl, -⟩ := OutZ.form hS.l
          obtain ⟨-, -, -, -, g0, g1, g2, g3⟩ := b4 hS.bx
          have hB2 := hS.x.heap HZ1.out
          obtain ⟨r0, r1, r2, r3, q0, q1, q2, q3⟩ := b4 hB2
          have HD := hd (fun x0 x1 x2 x3 => hS.done (x0 := x0) (x1 := x1) (x2 := x2) (x3 := x3) (X1.out.trans hS.x) (by omega) hB2)
          rw [HL.out] at HD
          rw [← HFX.out] at HD
          clear hS hB2
          go_wp2
          refine bodyPost_ret (v := .agg #[.slice (some aA) zs.length cA, .slice (some ⟨w1.heap.size + 1 + 1, 0, none⟩) zs.length zs.length, .slice A8 cn.length c8, .slice A9 us.length c9]) ?_ rfl ?_
          · simp [results, Tryz.results16, go_sem, r0, r1, r2, r3]
          · exact ⟨_, _, _, _, _, _, _, _, _, _, _, _, rfl, (HD.out _ _ _ _).1, (HD.out _ _ _ _).2⟩
        · have hz' : ¬ (ct : Int) = 0 := by omega
          have HAN : Hid (L.all (keepB n q L) = false) := hd (by cases h : L.all (keepB n q L); rfl; exact absurd (HGN.out.2 h) hz)
          have HSC2 : Hid (Sub AL (ns.map Prod.snd)) := hd (by rw [HNS.out]; exact HSB.out.cut)
          have HSH2 : Hid (shrL n q AL = shrL n q (ns.map Prod.snd)) := hd (by rw [HNS.out, HSH.out]; exact shrL_no HAN.out)
          have hless : ns.length < us.length := by
            have h1 := shr_less (n := n) (w := q) (L := L) (by rw [HAN.out]; decide)
            have h2 := congrArg List.length HNS.out
            have h3 := congrArg List.length HL.out
            rw [List.length_map] at h2 h3
            omega
          have HMK5 : Hid (∀ i (h : i < AL.length) (h' : i < rs.length), (0 < rs[i] ↔ AL[i] ∉ ns.map Prod.snd)) := hd fun i h h' => by
            have h1 := HMK.out i h h'
            rw [if_pos (by omega)] at h1
            rw [h1, HNS.out, ← mem_cut_out]
            simp
          have hus : ns.length + (r + 1) ≤ zs.length + 1 := by omega
          have hsr : w1.heap.size ≤ wr.heap.size := hS.x.size
          have hws : w.heap.size ≤ wo.heap.size := by have := HW1.out; omega
          clear hz HGN HOU HMK hless hS
          obtain ⟨A8, c8, rfl, -⟩ := OwnI.form HS.out.c
          have HPU := hd (fun (w6 : World) (hg1 : (wr.alloc (.cells #[.int .i64 (ct : Int)] 3)).grownBy w6 (Value.slice A8 cn.length c8).ownBlock) => b4 (HS.out.pushed (Ext.new wr _) hg1))
          go_wp2_with (at_builtin; refine appI wr HS.out.c rfl _ _ rfl (ct : Int) (by rfl) (by rfl) (by omega) hsr ?_; intro v' w6 ho1 hg1 hb1; obtain ⟨A10, c10, e10, -⟩ := OwnI.form ho1; rw [List.length_append, List.length_singleton] at e10; subst e10; obtain ⟨d0, d1, d2, d3, e0, e1, e2, e3⟩ := HPU.out w6 hg1)
          have HSP := HS.out.push (Ext.new wr _) ho1 hg1 (by rw [World.size_alloc]; exact hb1)
          have HNP := HS.out.pushedZ HO.out (Ext.new wr _) hg1 (.slice A10 (cn.length + 1) c10)
          have HSQ := hd (HSP.left (own_rebase HNP hws) HNR.out)
          have hcn : (cn ++ [(ct : Int)]).length + 1 ≤ r + 1 := by rw [List.length_append, List.length_singleton]; omega
          clear ho1 hg1 hb1 HSP HNP
          go_wp2
          go_roundw
          case rel => exact ⟨r + 1, rs, cn ++ [(ct : Int)], _, _, ns, by go_num, by omega, hus, hrl, hcn, HSQ.out, HSC2, HSH2, HMK5⟩
          case measure => simp [intOf]; omega
end Go.Proofs.YtbdcomkbpapcaaaGreat
