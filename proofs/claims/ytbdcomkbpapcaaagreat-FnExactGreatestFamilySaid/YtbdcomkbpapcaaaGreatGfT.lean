import Derived.Test.YtbdcomkbpapcaaaGreatGfS
import Derived.Test.YtbdcomkbpapcaaaGreatParT
import Derived.Test.YtbdcomkbpapcaaaGreatMg6
import Derived.Test.YtbdcomkbpapcaaaGreatSink
/-
  Greatest families, the reference's side: a clause's place, all allowed assignments. Conditions: at most 60 clauses of literals within 12, at most six variables.
-/

namespace Go.Proofs.YtbdcomkbpapcaaaGreat
open Go.RowKit Seed
def atL (xss : List (List Int)) (ys : List Int) : Int := if foundL xss ys then (plcL xss ys : Nat) else -1
theorem atL_lt (xss : List (List Int)) (ys : List Int) : decide (atL xss ys < 0) = !foundL xss ys := by
  unfold atL
  cases foundL xss ys
  · rfl
  · simp
set_option maxHeartbeats 1600000 in
theorem s_l2At (xss : List (List Int)) (ys : List Int) (v u : Value) (w : World) (hv : RdSS w v xss) (hu : RdI w u ys) (hx : Hid (∀ c ∈ xss, c.length ≤ 1000000 ∧ ∀ x ∈ c, -1000 ≤ x ∧ x ≤ 1000)) (hy : Hid (∀ x ∈ ys, -1000 ≤ x ∧ x ≤ 1000)) (hl : xss.length ≤ 1000000) (hly : ys.length ≤ 1000000) :
    Calls Tryz.prog 44 #[v, u] w (RetQ w (.int .i64 (atL xss ys))) := by
  have HU := hd hu
  have HPL := hd (s_l2Place xss ys v u w hv hu hx hy hl hly)
  obtain ⟨A, c, rfl, h1, h2, ha⟩ := hv.form
  obtain ⟨B, d, rfl, -⟩ := hu.form
  have hk := plcL_le xss ys
  have HE : Hid (atL xss ys = if (decide (plcL xss ys < xss.length) && decide (xss.getD (plcL xss ys) [] = ys)) then ((plcL xss ys : Nat) : Int) else -1) := hd rfl
  clear hv hu
  rw [HE.out]
  clear HE
  generalize plcL xss ys = k at *
  by_cases hlt : k < xss.length
  · obtain ⟨a1, u1, rfl, hc0, hr0⟩ := RdSS.at_ ha hlt
    obtain ⟨q, hq⟩ : ∃ q, decide (xss[k] = ys) = q := ⟨_, rfl⟩
    have HQ := hd hq
    have HE : Hid ((decide (k < xss.length) && decide (xss.getD k [] = ys)) = q) := hd (by rw [decide_eq_true hlt]; simpa [List.getD, hlt] using hq)
    rw [HE.out]
    obtain ⟨z, hz⟩ : ∃ z, (if q = true then ((k : Nat) : Int) else -1) = z := ⟨_, rfl⟩
    have HZ := hd hz
    rw [hz]
    clear hz
    have HYL := hd (hx.out _ (List.getElem_mem hlt)).1
    have e1 : (0 : Int) ≤ (k : Int) := by omega
    have e2 : (k : Int) < (xss.length : Int) := by omega
    have HC := hd (fun n => (ext_drewN w n).cell hc0)
    have HR := hd (fun n => hr0.ext (ext_drewN w n))
    clear hq HE hc0
    generalize xss[k] = y at *
    obtain ⟨A3, c3, rfl, -⟩ := hr0.form
    clear hr0
    go_enter Tryz.func44, Tryz.ntmps44
    go_wp2_with fail
    refine HPL.out.mono ?_
    rintro e w1 ⟨rfl, n1, rfl⟩
    have hc1 := HC.out n1
    go_wp2_with fail
    refine (rtq (s_l1Same y ys _ _ _ (HR.out n1) (HU.out.ext (ext_drewN w n1)) HYL.out hly) HQ).mono ?_
    rintro e w2 ⟨rfl, n2, rfl⟩
    cases q
    all_goals
      go_wp2
      go_ret
      exact ⟨by rw [← HZ.out]; rfl, n1 + n2, by first | rfl | rw [World.drewN_drewN]⟩
  · have hlt' : ¬ (k : Int) < (xss.length : Int) := by omega
    rw [decide_eq_false hlt, Bool.false_and, if_neg (by decide)]
    go_enter Tryz.func44, Tryz.ntmps44
    go_wp2_with fail
    refine HPL.out.mono ?_
    rintro e w1 ⟨rfl, n1, rfl⟩
    go_wp2
    go_ret
    exact ⟨rfl, _, rfl⟩
/-- A row that is not nil, in a block of numbers. -/
def RowR (w : World) (z : Row) : Prop := RdI w z.1 z.2 ∧ ∃ a c, z.1 = .slice (some a) z.2.length c ∧ ∃ cells fr, w.heap[a.block]? = some (.cells cells 3 fr)
theorem RowR.ext {w w' : World} {z : Row} (h : RowR w z) (hx : Ext w w') : RowR w' z := by
  obtain ⟨h1, a, c, e, cells, fr, hb⟩ := h
  exact ⟨h1.ext hx, a, c, e, cells, fr, hx.heap hb⟩
theorem rowR_own {w : World} {lo : Nat} {u : Value} {xs : List Int} (h : OwnI w lo 3 u xs) (hn : 0 < xs.length) : RowR w (u, xs) := by
  refine ⟨h.rd, ?_⟩
  rcases h.2 with ⟨_, h0⟩ | ⟨g, cap, cur, rfl, _, hb, _⟩
  · omega
  · exact ⟨⟨g, 0, none⟩, cap, rfl, cur, _, hb⟩
theorem rdI_grown {w w' : World} {row : Option Nat} {a : Addr} {n c : Nat} {xs : List Int} (h : RdI w (.slice (some a) n c) xs) (hg : w.grownBy w' row) (hb : a.block < w.heap.size) (hne : row ≠ some a.block) : RdI w' (.slice (some a) n c) xs := by
  have hh := hg.block a.block hb (fun e => hne (by rw [e]))
  obtain ⟨h1, A, c', e, h2, h3, h4⟩ := h
  injection e with e1 e2 e3
  subst e1
  subst e2
  subst e3
  refine ⟨h1, some a, c, rfl, h2, h3, fun j u hu => ?_⟩
  obtain ⟨a', ha, hc⟩ := h4 j u hu
  cases ha
  refine ⟨a, rfl, ?_⟩
  have hb2 : (a.add j).block = a.block := by unfold Addr.add; split <;> rfl
  have e : w'.cell? (a.add j) = w.cell? (a.add j) := by simp only [World.cell?]; rw [hb2, hh]
  rw [e]; exact hc
theorem rowR_grown {w w' : World} {lo : Nat} {v : Value} {zs : List Row} (ho : OutZ w lo v zs) {z : Row} (h : RowR w z) (hg : w.grownBy w' v.ownBlock) : RowR w' z := by
  obtain ⟨h1, a, c, e, cells, fr, hb⟩ := h
  have hlt : a.block < w.heap.size := (Array.getElem?_eq_some_iff.1 hb).1
  have hne : v.ownBlock ≠ some a.block := fun e => own_box ho hb (by decide) a.block e rfl
  obtain ⟨u, xs⟩ := z
  simp only at e h1
  subst e
  exact ⟨rdI_grown h1 hg hlt hne, a, c, rfl, cells, fr, (hg.block a.block hlt (fun e => hne e.symm)).trans hb⟩
def RetAll (w : World) (xss : List (List Int)) : Ending → World → Prop := fun e w' => ∃ a c zs, e = .returned (.slice (some a) zs.length c) ∧ OutZ w' w.heap.size (.slice (some a) zs.length c) zs ∧ (∀ z ∈ zs, RowR w' z) ∧ zs.map Prod.snd = xss ∧ Ext w w'
theorem some_own {w : World} {lo : Nat} {u : Value} {xs : List Int} (h : OwnI w lo 3 u xs) (hn : 0 < xs.length) : ∃ a c, u = .slice (some a) xs.length c := by
  obtain ⟨A, c, e, h1, h2, hc⟩ := h.rd.form
  obtain ⟨a, ha, _⟩ := RdI.at_ hc hn
  exact ⟨a, c, by rw [e, ha]⟩
theorem some_ownN {w : World} {lo n : Nat} {u : Value} {xs : List Int} (h : OwnI w lo 3 u xs) (hl : xs.length = n) (hn : 0 < n) : ∃ a c, u = .slice (some a) n c := by
  obtain ⟨a, c, e⟩ := some_own h (by omega)
  exact ⟨a, c, by rw [e, hl]⟩
theorem outZ_some {w : World} {lo : Nat} {v : Value} {zs : List Row} (h : OutZ w lo v zs) (hn : 0 < zs.length) : ∃ a c, v = .slice (some a) zs.length c := by
  obtain ⟨_, A, c, e, _, _, hc⟩ := own_rd h
  obtain ⟨a, ha, _⟩ := hc 0 zs[0].1 (by rw [List.getElem?_map, List.getElem?_eq_getElem hn]; rfl)
  exact ⟨a, c, by rw [e, ha]⟩
theorem rows_cells {w : World} {zs : List Row} (h : ∀ z ∈ zs, RowR w z) : ∀ u ∈ zs.map Prod.fst, u.oneCell' = true := fun u hu => by
  obtain ⟨z, hz, rfl⟩ := List.mem_map.1 hu
  obtain ⟨_, a, c, e, _⟩ := h z hz
  rw [e]; rfl
theorem ris_bd {n : Nat} {a : List Int} (h : Ris (n : Int) a) (hn : n ≤ 6) : ∀ x ∈ a, -1000 ≤ x ∧ x ≤ 1000 := fun x hx => by
  have := absI_bd (h.2 x hx).2
  omega
theorem treeS_len {ok : List Int → Bool} {n : Nat} (hm : ∀ a t, Ris n (a ++ t) → ok (a ++ t) = true → ok a = true) (hn : n ≤ 6) (d : Nat) (a : List Int) (hd : d ≤ n) (hr : Ris ((n - d : Nat) : Int) a) : (treeS ok n d a).length ≤ 729 := by
  rw [treeS_eq hm d a hd hr]
  have h1 := List.length_filter_le ok (treeE n d a)
  rw [treeE_len] at h1
  have := pow36 (show d ≤ 6 by omega)
  omega
theorem loopS_step (ok : List Int → Bool) (n d : Nat) (a : List Int) : loopS ok n (d + 1) a = treeS ok n d (a ++ [((n - d : Nat) : Int)]) ++ (treeS ok n d (a ++ [-((n - d : Nat) : Int)]) ++ loopS ok n d a) := rfl
theorem rows_grown {w w3 w4 : World} {lo : Nat} {v : Value} {zs ys : List Row} (ho : OutZ w lo v zs) (h : Hid (∀ z ∈ zs, RowR w z)) (h3 : Hid (∀ z ∈ ys, RowR w3 z)) (hx : Ext w w3) (hg : w3.grownBy w4 v.ownBlock) : ∀ z ∈ zs ++ ys, RowR w4 z := fun z hz => by
  have ho3 : OutZ w3 lo v zs := own_ext ho hx
  rcases List.mem_append.1 hz with hz | hz
  · exact rowR_grown ho3 ((h.out z hz).ext hx) hg
  · exact rowR_grown ho3 (h3.out z hz) hg
theorem ownZ_ge {w : World} {lo : Nat} {v : Value} {zs : List Row} (h : OutZ w lo v zs) : ∀ g, v.ownBlock = some g → lo ≤ g := fun g hg => (own_blocks h g hg).1
theorem keep_box {wo w' : World} {b : Nat} {x y : Value} (h : Hid (∀ w' : World, Ext wo w' → w'.cell? ⟨b, 0, none⟩ = some x ∧ w'.cell? ⟨b, 1, none⟩ = some y)) (hx : Ext wo w') : w'.cell? ⟨b, 0, none⟩ = some x ∧ w'.cell? ⟨b, 1, none⟩ = some y ∧ Ext wo w' := ⟨(h.out w' hx).1, (h.out w' hx).2, hx⟩
set_option maxRecDepth 100000 in
set_option maxHeartbeats 6400000 in
theorem s_l13All (n : Nat) (cs : List (List Int)) (q : Nat) (hn : n ≤ 6) (hl : cs.length ≤ 60) (hc : Hid (∀ c ∈ cs, c.length ≤ 1000000 ∧ ∀ l ∈ c, -12 ≤ l ∧ l ≤ 12)) (hq : q ≤ 6) :
    ∀ (d : Nat), d ≤ n → ∀ (a : List Int) (v : Value) (av : Value) (w : World), Ris ((n - d : Nat) : Int) a → Rd_Cnf w v ⟨(n : Int), cs⟩ → RowR w (av, a) →
      Calls Tryz.prog 42 #[v, .int .i64 (q : Int), av, .int .i64 ((n - d : Nat) : Int)] w (RetAll w (treeS (alwB cs q) n d a)) := by
  intro d
  induction d using Nat.strongRecOn with
  | ind d ih =>
  intro hd1 a v av w hra hv hrow
  have HV := hd hv
  have HRA := hd hra
  have HROW := hd hrow
  have HM : Hid (∀ a t, Ris n (a ++ t) → alwB cs q (a ++ t) = true → alwB cs q a = true) := hd fun _ _ hr h => alw_mono hr h
  have HTL : Hid ((treeS (alwB cs q) n d a).length ≤ 729) := hd (treeS_len HM.out hn d a hd1 hra)
  obtain ⟨vc, rfl, hC⟩ := hv
  obtain ⟨A, c, rfl, h1, h2, hA⟩ := hC.form
  obtain ⟨hrd, a0, c0, hav, -⟩ := hrow
  simp only at hav hrd
  subst hav
  have HA := hd hrd
  have hal : a.length ≤ 6 := by have := (hra.mono (show ((n - d : Nat) : Int) ≤ (n : Nat) by omega)).len; omega
  simp only at *
  clear hC hrd hra hA
  have HALW := hd (fun w' hx => s_l13Allowed ⟨(n : Int), cs⟩ _ _ q a w' (HV.out.ext hx) (HA.out.ext hx) hl hc (by omega) hq : ∀ w', Ext w w' → _)
  simp only at HALW
  have HBX : Hid (∀ w' : World, Ext (w.alloc (.cells #[.int .i64 (n : Int), .slice A cs.length c] 28)) w' → w'.cell? ⟨w.heap.size, 0, none⟩ = some (.int .i64 (n : Int)) ∧ w'.cell? ⟨w.heap.size, 1, none⟩ = some (.slice A cs.length c)) := hd fun w' hx => blk2 (hx.heap (heap_n1 w _))
  have HN := hd (Ext.new w (.cells #[.int .i64 (n : Int), .slice A cs.length c] 28))
  by_cases hok : alwB cs q a = true
  · have HTS : Hid (treeS (alwB cs q) n d a = a :: loopS (alwB cs q) n d a) := hd (by unfold treeS; rw [if_pos hok])
    have HOK := hd hok
    rw [hok] at HALW
    clear hok
    have OE : Hid (∀ W : World, w.heap.size + 1 ≤ W.heap.size → OutZ (W.alloc (.cells #[] 37)) (w.heap.size + 1) (.slice (some ⟨W.heap.size, 0, none⟩) 0 0) []) := hd fun W hW => outZ_emp (heap_n1 _ _) hW
    go_enter Tryz.func42, Tryz.ntmps42
    go_wp2_with fail
    refine (HALW.out _ (by repeat (first | exact Ext.refl _ | apply Ext.drew | refine Ext.alloc ?_ _))).mono ?_
    rintro e w1 ⟨rfl, hx1⟩
    have hoe := OE.out (w.alloc (.cells #[.int .i64 (n : Int), .slice A cs.length c] 28)) (by simp)
    rw [World.size_alloc] at hoe
    have O1 := hd (own_ext hoe hx1)
    have X1 := hd ((Ext.new _ _).trans hx1)
    have hs1 := X1.out.size
    rw [World.size_alloc] at hs1
    clear hoe OE hx1 HALW
    go_wp2_with (at_builtin; refine appZ _ (zs := []) (ys := [(Value.slice (some a0) a.length c0, a)]) (lo := w.heap.size + 1) (own_ext O1.out (Ext.new _ _)) (rdZ_at (us := [Value.slice (some a0) a.length c0]) (heap_n1 _ _) (by simp)) (by intro u hu; obtain rfl := List.mem_singleton.1 hu; rfl) rfl _ _ rfl (by rfl) (by rfl) (by simp) (by simp; omega) ?_; intro v2 w2 ho2 hg2 hb2)
    have X2 := hd (ext_appS (X1.out.alloc _) hg2 (by have := ownZ_ge O1.out; rw [World.size_alloc]; exact this))
    have HR2 : Hid (∀ z ∈ [] ++ [((Value.slice (some a0) a.length c0, a) : Row)], RowR w2 z) := hd fun z hz => by
      obtain rfl := List.mem_singleton.1 (by simpa using hz)
      exact rowR_grown (own_ext O1.out (Ext.new _ _)) (HROW.out.ext (((Ext.new _ _).trans X1.out).alloc _)) hg2
    have HO2 := hd ho2
    obtain ⟨a2, c2, e2⟩ : ∃ a2 c2, v2 = .slice (some a2) 1 c2 := outZ_some ho2 (by simp)
    subst e2
    clear ho2 hg2 hb2 O1
    go_wp2
    go_loopw [9, 10] (fun ov uv wr => ∃ (m e : Nat) (zs : List Row) (ao : Addr) (co : Nat), 1 ≤ m ∧ 0 < zs.length ∧ m + e = n + 1 ∧ e ≤ d ∧ uv = .int .i64 (m : Int) ∧ ov = .slice (some ao) zs.length co ∧ OutZ wr (w.heap.size + 1) (.slice (some ao) zs.length co) zs ∧ Hid (∀ z ∈ zs, RowR wr z) ∧ Hid (zs.map Prod.snd ++ loopS (alwB cs q) n e a = treeS (alwB cs q) n d a) ∧ Ext (w.alloc (.cells #[.int .i64 (n : Int), .slice A cs.length c] 28)) wr) (fun _ uv _ => n + 1 - (intOf uv).toNat)
    case atStart => exact ⟨n - d + 1, d, _, a2, c2, by omega, by simp, by omega, Nat.le_refl _, by simp, rfl, HO2.out, HR2, hd HTS.out.symm, X2.out⟩
    case round =>
      clear HO2 HR2 X2 X1
      obtain ⟨m, e, zs, ao, co, hm1, hzp, hme, hed, rfl, rfl, ho, HR, HS, hx⟩ := hrel
      have HO := hd ho
      have HX := hd hx
      have hls := hx.size
      rw [World.size_alloc] at hls
      clear ho hx
      have hzl : zs.length ≤ 729 := by
        have e := congrArg List.length HS.out
        rw [List.length_append, List.length_map] at e
        have := HTL.out
        omega
      obtain ⟨k0, k1⟩ := HBX.out _ HX.out
      by_cases hlt : m ≤ n
      · obtain ⟨d1, rfl⟩ : ∃ d1, e = d1 + 1 := ⟨e - 1, by omega⟩
        have hd2 : n - d1 = m := by omega
        have hlt' : (m : Int) ≤ (n : Int) := by omega
        have hab : absI (m : Int) = (m : Int) := absI_pos (by omega)
        have HRP : Hid (Ris (m : Int) (a ++ [(m : Int)])) := hd (ris_snoc HRA.out hab (by omega) (by omega))
        have HRM : Hid (Ris (m : Int) (a ++ [-(m : Int)])) := hd (ris_snoc HRA.out (by rw [absI_neg]; exact hab) (by omega) (by omega))
        have HLP : Hid ((treeS (alwB cs q) n d1 (a ++ [(m : Int)])).length ≤ 729) := hd (treeS_len HM.out hn d1 _ (by omega) (by rw [hd2]; exact HRP.out))
        have HLM : Hid ((treeS (alwB cs q) n d1 (a ++ [-(m : Int)])).length ≤ 729) := hd (treeS_len HM.out hn d1 _ (by omega) (by rw [hd2]; exact HRM.out))
        have hst := loopS_step (alwB cs q) n d1 a
        have hih := ih d1 (by omega) (by omega)
        rw [hd2] at hst hih
        have HST := hd hst
        have IH := hd hih
        clear hst hih ih
        have HP : Hid (0 < zs.length) := hd hzp
        have HSS : Hid (zs.map Prod.snd ++ (treeS (alwB cs q) n d1 (a ++ [(m : Int)]) ++ (treeS (alwB cs q) n d1 (a ++ [-(m : Int)]) ++ loopS (alwB cs q) n d1 a)) = treeS (alwB cs q) n d a) := hd (by rw [← HS.out, HST.out])
        have hmb : (m : Int) ≤ 6 := by omega
        have hm0 : 1 ≤ (m : Int) := by omega
        have hwm : IntKind.i64.wrap (-(m : Int)) = -(m : Int) := IntWalk.i64_in _ (by omega)
        obtain ⟨wo, rfl⟩ : ∃ wo : World, wo = wr := ⟨_, rfl⟩
        have HBO : Hid (∀ w' : World, Ext wo w' → w'.cell? ⟨w.heap.size, 0, none⟩ = some (.int .i64 (n : Int)) ∧ w'.cell? ⟨w.heap.size, 1, none⟩ = some (.slice A cs.length c)) := hd fun w' hx => HBX.out w' (HX.out.trans hx)
        have HAO := hd (fun w' (hx : Ext wo w') => HA.out.ext ((HN.out.trans HX.out).trans hx))
        have HRO := hd (fun w' (hx : Ext wo w') => HV.out.ext ((HN.out.trans HX.out).trans hx))
        have hso := HX.out.size
        rw [World.size_alloc] at hso
        obtain ⟨k0, k1⟩ := HBO.out _ (Ext.refl _)
        go_wp2_with fail
        refine wp_region_sink (fun w' => (w').cell? ⟨w.heap.size, 0, none⟩ = some (.int .i64 (n : Int)) ∧ (w').cell? ⟨w.heap.size, 1, none⟩ = some (.slice A cs.length c)) 11 12 #[false, false, false, false, false, false, false, false, false, false, false, false] (by kernel_rfl) (by kernel_rfl) (by kernel_rfl) ?_
        have HS := HBO.out _ (Ext.refl wo).drew
        refine' ordG_take 0 (oi := _) (v := _) ?_ ?_ ?_ (Or.inl ⟨?_, ?_⟩) ?_ ?_
        rotate_left 2
        · (simp only [List.getElem?_toArray, List.getElem?_cons_zero]; rfl)
        · kernel_rfl
        · exact fun _ _ _ h => h
        · rfl
        · (intro w hSw; (try dsimp only at hSw); go_simp; (try with_reducible rfl))
        · exact HS
        (try simp only [Act.put, List.setIfInBounds_toArray, List.set_cons_zero, List.set_cons_succ])
        refine' ordG_take 1 (oi := _) (v := _) ?_ ?_ ?_ (Or.inl ⟨?_, ?_⟩) ?_ ?_
        rotate_left 2
        · (simp only [List.getElem?_toArray, List.getElem?_cons_zero, List.getElem?_cons_succ]; rfl)
        · kernel_rfl
        · exact fun _ _ _ h => h
        · rfl
        · (intro w hSw; (try dsimp only at hSw); go_simp; (try with_reducible rfl))
        · exact HS
        (try simp only [Act.put, List.setIfInBounds_toArray, List.set_cons_zero, List.set_cons_succ])
        refine' ordG_take 2 (oi := _) (v := _) ?_ ?_ ?_ (Or.inl ⟨?_, ?_⟩) ?_ ?_
        rotate_left 2
        · (simp only [List.getElem?_toArray, List.getElem?_cons_zero, List.getElem?_cons_succ]; rfl)
        · kernel_rfl
        · exact fun _ _ _ h => h
        · rfl
        · (intro w hSw; (try dsimp only at hSw); go_simp; (try with_reducible rfl))
        · exact HS
        (try simp only [Act.put, List.setIfInBounds_toArray, List.set_cons_zero, List.set_cons_succ])
        refine' ordG_take 3 (oi := _) (v := _) ?_ ?_ ?_ (Or.inl ⟨?_, ?_⟩) ?_ ?_
        rotate_left 2
        · (simp only [List.getElem?_toArray, List.getElem?_cons_zero, List.getElem?_cons_succ]; rfl)
        · kernel_rfl
        · exact fun _ _ _ h => h
        · rfl
        · (intro w hSw; (try dsimp only at hSw); go_simp; (try with_reducible rfl))
        · exact HS
        (try simp only [Act.put, List.setIfInBounds_toArray, List.set_cons_zero, List.set_cons_succ])
        refine' ordG_take 5 (oi := _) (v := _) ?_ ?_ ?_ (Or.inl ⟨?_, ?_⟩) ?_ ?_
        rotate_left 2
        · (simp only [List.getElem?_toArray, List.getElem?_cons_zero, List.getElem?_cons_succ]; rfl)
        · kernel_rfl
        · exact fun _ _ _ h => h
        · rfl
        · (intro w hSw; (try dsimp only at hSw); go_simp; (try with_reducible rfl))
        · exact HS
        (try simp only [Act.put, List.setIfInBounds_toArray, List.set_cons_zero, List.set_cons_succ])
        refine' ordG_take 8 (oi := _) (v := _) ?_ ?_ ?_ (Or.inl ⟨?_, ?_⟩) ?_ ?_
        rotate_left 2
        · (simp only [List.getElem?_toArray, List.getElem?_cons_zero, List.getElem?_cons_succ]; rfl)
        · kernel_rfl
        · exact fun _ _ _ h => h
        · rfl
        · (intro w hSw; (try dsimp only at hSw); go_simp; (try with_reducible rfl))
        · exact HS
        (try simp only [Act.put, List.setIfInBounds_toArray, List.set_cons_zero, List.set_cons_succ])
        refine ordG_all (rs := [4, 6]) (by kernel_rfl) (by simp) (by decide) ?_
        refine' ordG_cons (o := _) ?_ (fun K hK => ?_) ?_
        rotate_left 1
        · (simp only [List.getElem?_toArray, List.getElem?_cons_zero, List.getElem?_cons_succ]; rfl)
        ·
          go_simp
          go_at_call 27
          refine (s_l1Own a _ _ (HAO.out _ (Ext.refl _).drew) (by omega)).mono ?_
          rintro e w1 ⟨u1, rfl, hu1, hx1⟩
          have X1 : Ext wo w1 := Ext.trans (Ext.refl _).drew hx1
          have ho1 : OwnI w1 wo.heap.size 3 u1 a := own_rebase hu1 (by simp)
          go_simp
          refine hK.out _ _ (HBO.out _ X1) ?_
          clear hK K
          (try simp only [Act.put, List.setIfInBounds_toArray, List.set_cons_zero, List.set_cons_succ])
          refine ordG_all (rs := [6]) (by kernel_rfl) (by simp) (by decide) ?_
          refine' ordG_cons (o := _) ?_ (fun K hK => ?_) ordG_nil
          rotate_left 1
          · (simp only [List.getElem?_toArray, List.getElem?_cons_zero, List.getElem?_cons_succ]; rfl)
          go_simp
          refine hK.out _ _ (HBO.out _ (X1.alloc _)) ?_
          clear hK K
          (try simp only [Act.put, List.setIfInBounds_toArray, List.set_cons_zero, List.set_cons_succ])
          have ho1b : OwnI (w1.alloc (.cells #[.int .i64 (m : Int)] 3)) wo.heap.size 3 u1 a := own_ext ho1 (Ext.new _ _)
          have hr1b : RdI (w1.alloc (.cells #[.int .i64 (m : Int)] 3)) (.slice (some ⟨w1.heap.size, 0, none⟩) 1 1) [(m : Int)] := rdI_at (heap_n1 _ _)
          have X1b : Ext wo (w1.alloc (.cells #[.int .i64 (m : Int)] 3)) := X1.alloc _
          clear ho1 X1 hx1 hu1
          generalize w1.alloc (.cells #[.int .i64 (m : Int)] 3) = wb at *
          generalize w1.heap.size = bb at *
          refine ordG_all (rs := [7]) (by kernel_rfl) (by simp) (by decide) ?_
          refine' ordG_cons (o := _) ?_ (fun K hK => ?_) ordG_nil
          rotate_left 1
          · (simp only [List.getElem?_toArray, List.getElem?_cons_zero, List.getElem?_cons_succ]; rfl)
          refine stepSI _ (v := u1) (src := .slice (some ⟨bb, 0, none⟩) 1 1) (xs := a) (ys := [(m : Int)]) (base := wo.heap.size) ho1b hr1b rfl (.tmp 34) (.tmp 36) rfl (by rfl) (by rfl) (by simp; omega) X1b.size ?_
          intro u2 w2 ho2 hg2 hb2
          have X2 : Ext wo w2 := ext_appS X1b hg2 (fun g hg => ownI_ge ho1b g hg)
          obtain ⟨a2, c2, e2⟩ := some_ownN ho2 (n := a.length + 1) (by simp) (by omega)
          subst e2
          have hrw := rowR_own ho2 (by simp)
          refine hK.out _ _ (HBO.out _ X2) ?_
          clear hK K
          (try simp only [Act.put, List.setIfInBounds_toArray, List.set_cons_zero, List.set_cons_succ])
          refine ordG_all (rs := [9]) (by kernel_rfl) (by simp) (by decide) ?_
          refine' ordG_cons (o := _) ?_ (fun K hK => ?_) ordG_nil
          rotate_left 1
          · (simp only [List.getElem?_toArray, List.getElem?_cons_zero, List.getElem?_cons_succ]; rfl)
          go_simp
          go_at_call 42
          refine (IH.out (a ++ [(m : Int)]) _ _ w2 HRP.out (HRO.out _ X2) hrw).mono ?_
          rintro e w3 ⟨a3, c3, zs3, rfl, ho3, hr3, hs3, hx3⟩
          have X3 : Ext wo w3 := X2.trans hx3
          have hl3 : zs3.length ≤ 729 := by rw [← List.length_map (f := Prod.snd), hs3]; exact HLP.out
          have HR3 := hd hr3
          have HS3 := hd hs3
          clear hr3 hs3
          go_simp
          refine hK.out _ _ (HBO.out _ X3) ?_
          clear hK K
          (try simp only [Act.put, List.setIfInBounds_toArray, List.set_cons_zero, List.set_cons_succ])
          refine ordG_all (rs := [10]) (by kernel_rfl) (by simp) (by decide) ?_
          refine' ordG_cons (o := _) ?_ (fun K hK => ?_) ordG_nil
          rotate_left 1
          · (simp only [List.getElem?_toArray, List.getElem?_cons_zero, List.getElem?_cons_succ]; rfl)
          refine stepZ _ (v := .slice (some ao) zs.length co) (src := .slice (some a3) zs3.length c3) (zs := zs) (ys := zs3) (lo := w.heap.size + 1) (own_ext HO.out X3) (own_rd ho3) (rows_cells HR3.out) rfl (.tmp 30) (.tmp 39) rfl (by rfl) (by rfl) (by omega) (by have := X3.size; omega) ?_
          intro u4 w4 ho4 hg4 hb4
          have X4 : Ext (w.alloc (.cells #[.int .i64 (n : Int), .slice A cs.length c] 28)) w4 := ext_appS (HX.out.trans X3) hg4 (by have := ownZ_ge HO.out; rw [World.size_alloc]; exact this)
          have HR4 : Hid (∀ z ∈ zs ++ zs3, RowR w4 z) := hd (rows_grown HO.out HR HR3 X3 hg4)
          refine hK.out _ _ (HBX.out _ X4) ?_
          clear hK K
          (try simp only [Act.put, List.setIfInBounds_toArray, List.set_cons_zero, List.set_cons_succ])
          refine ordG_last (by kernel_rfl) (by kernel_rfl) ?_
          refine' wpOp_step (o := _) ?_ (fun K hK => ?_)
          rotate_left 1
          · (simp only [List.getElem?_toArray, List.getElem?_cons_zero, List.getElem?_cons_succ]; rfl)
          go_simp
          refine hK _ _ ?_
          clear hK K
          (try simp only [Act.put, List.setIfInBounds_toArray, List.set_cons_zero, List.set_cons_succ])
          have HO4 := hd ho4
          have HX4 := hd X4
          have HS4 : Hid ((zs ++ zs3).map Prod.snd ++ ((treeS (alwB cs q) n d1 (a ++ [-(m : Int)]) ++ loopS (alwB cs q) n d1 a)) = treeS (alwB cs q) n d a) := hd (by rw [List.map_append, HS3.out, List.append_assoc]; exact HSS.out)
          have hl4 : (zs ++ zs3).length ≤ 729 := by
            have e := congrArg List.length HS4.out
            rw [List.length_append, List.length_map] at e
            have := HTL.out
            omega
          obtain ⟨a4, c4, e4⟩ := outZ_some ho4 (by have := HP.out; rw [List.length_append]; omega)
          subst e4
          clear ho4 X4 hg4 hb4 HR3 HS3 k0 k1 HBO HAO HRO HS ho3 hx3 X3 X2 ho2 hg2 hb2 hr1b ho1b X1b
          have HP4 : Hid (0 < (zs ++ zs3).length) := hd (by have := HP.out; rw [List.length_append]; omega)
          generalize zs ++ zs3 = zs5 at *
          obtain ⟨wo, rfl⟩ : ∃ wo : World, wo = w4 := ⟨_, rfl⟩
          have HBO : Hid (∀ w' : World, Ext wo w' → w'.cell? ⟨w.heap.size, 0, none⟩ = some (.int .i64 (n : Int)) ∧ w'.cell? ⟨w.heap.size, 1, none⟩ = some (.slice A cs.length c)) := hd fun w' hx => HBX.out w' (HX4.out.trans hx)
          have HAO := hd (fun w' (hx : Ext wo w') => HA.out.ext ((HN.out.trans HX4.out).trans hx))
          have HRO := hd (fun w' (hx : Ext wo w') => HV.out.ext ((HN.out.trans HX4.out).trans hx))
          have hso := HX4.out.size
          rw [World.size_alloc] at hso
          obtain ⟨k0, k1⟩ := HBO.out _ (Ext.refl _)
          go_wp2_with fail
          refine wp_region_sink (fun w' => (w').cell? ⟨w.heap.size, 0, none⟩ = some (.int .i64 (n : Int)) ∧ (w').cell? ⟨w.heap.size, 1, none⟩ = some (.slice A cs.length c)) 12 13 #[false, false, false, false, false, false, false, false, false, false, false, false, false] (by kernel_rfl) (by kernel_rfl) (by kernel_rfl) ?_
          have HS := HBO.out _ (Ext.refl wo).drew
          refine' ordG_take 0 (oi := _) (v := _) ?_ ?_ ?_ (Or.inl ⟨?_, ?_⟩) ?_ ?_
          rotate_left 2
          · (simp only [List.getElem?_toArray, List.getElem?_cons_zero]; rfl)
          · kernel_rfl
          · exact fun _ _ _ h => h
          · rfl
          · (intro w hSw; (try dsimp only at hSw); go_simp; (try with_reducible rfl))
          · exact HS
          (try simp only [Act.put, List.setIfInBounds_toArray, List.set_cons_zero, List.set_cons_succ])
          refine' ordG_take 1 (oi := _) (v := _) ?_ ?_ ?_ (Or.inl ⟨?_, ?_⟩) ?_ ?_
          rotate_left 2
          · (simp only [List.getElem?_toArray, List.getElem?_cons_zero, List.getElem?_cons_succ]; rfl)
          · kernel_rfl
          · exact fun _ _ _ h => h
          · rfl
          · (intro w hSw; (try dsimp only at hSw); go_simp; (try with_reducible rfl))
          · exact HS
          (try simp only [Act.put, List.setIfInBounds_toArray, List.set_cons_zero, List.set_cons_succ])
          refine' ordG_take 2 (oi := _) (v := _) ?_ ?_ ?_ (Or.inl ⟨?_, ?_⟩) ?_ ?_
          rotate_left 2
          · (simp only [List.getElem?_toArray, List.getElem?_cons_zero, List.getElem?_cons_succ]; rfl)
          · kernel_rfl
          · exact fun _ _ _ h => h
          · rfl
          · (intro w hSw; (try dsimp only at hSw); go_simp; (try with_reducible rfl))
          · exact HS
          (try simp only [Act.put, List.setIfInBounds_toArray, List.set_cons_zero, List.set_cons_succ])
          refine' ordG_take 3 (oi := _) (v := _) ?_ ?_ ?_ (Or.inl ⟨?_, ?_⟩) ?_ ?_
          rotate_left 2
          · (simp only [List.getElem?_toArray, List.getElem?_cons_zero, List.getElem?_cons_succ]; rfl)
          · kernel_rfl
          · exact fun _ _ _ h => h
          · rfl
          · (intro w hSw; (try dsimp only at hSw); go_simp; (try with_reducible rfl))
          · exact HS
          (try simp only [Act.put, List.setIfInBounds_toArray, List.set_cons_zero, List.set_cons_succ])
          refine' ordG_take 5 (oi := _) (v := _) ?_ ?_ ?_ (Or.inl ⟨?_, ?_⟩) ?_ ?_
          rotate_left 2
          · (simp only [List.getElem?_toArray, List.getElem?_cons_zero, List.getElem?_cons_succ]; rfl)
          · kernel_rfl
          · exact fun _ _ _ h => h
          · rfl
          · (intro w hSw; (try dsimp only at hSw); go_simp; (try with_reducible rfl))
          · exact HS
          (try simp only [Act.put, List.setIfInBounds_toArray, List.set_cons_zero, List.set_cons_succ])
          refine' ordG_take 6 (oi := _) (v := _) ?_ ?_ ?_ (Or.inl ⟨?_, ?_⟩) ?_ ?_
          rotate_left 2
          · (simp only [List.getElem?_toArray, List.getElem?_cons_zero, List.getElem?_cons_succ]; rfl)
          · kernel_rfl
          · exact fun _ _ _ h => h
          · rfl
          · (intro w hSw; (try dsimp only at hSw); go_simp; (try with_reducible rfl))
          · exact HS
          (try simp only [Act.put, List.setIfInBounds_toArray, List.set_cons_zero, List.set_cons_succ])
          refine' ordG_take 9 (oi := _) (v := _) ?_ ?_ ?_ (Or.inl ⟨?_, ?_⟩) ?_ ?_
          rotate_left 2
          · (simp only [List.getElem?_toArray, List.getElem?_cons_zero, List.getElem?_cons_succ]; rfl)
          · kernel_rfl
          · exact fun _ _ _ h => h
          · rfl
          · (intro w hSw; (try dsimp only at hSw); go_simp; (try with_reducible rfl))
          · exact HS
          (try simp only [Act.put, List.setIfInBounds_toArray, List.set_cons_zero, List.set_cons_succ])
          refine ordG_all (rs := [4, 7]) (by kernel_rfl) (by simp) (by decide) ?_
          refine' ordG_cons (o := _) ?_ (fun K hK => ?_) ?_
          rotate_left 1
          · (simp only [List.getElem?_toArray, List.getElem?_cons_zero, List.getElem?_cons_succ]; rfl)
          ·
            go_simp
            go_at_call 27
            refine (s_l1Own a _ _ (HAO.out _ (Ext.refl _).drew) (by omega)).mono ?_
            rintro e w1 ⟨u1, rfl, hu1, hx1⟩
            have X1 : Ext wo w1 := Ext.trans (Ext.refl _).drew hx1
            have ho1 : OwnI w1 wo.heap.size 3 u1 a := own_rebase hu1 (by simp)
            go_simp
            refine hK.out _ _ (HBO.out _ X1) ?_
            clear hK K
            (try simp only [Act.put, List.setIfInBounds_toArray, List.set_cons_zero, List.set_cons_succ])
            refine ordG_all (rs := [7]) (by kernel_rfl) (by simp) (by decide) ?_
            refine' ordG_cons (o := _) ?_ (fun K hK => ?_) ordG_nil
            rotate_left 1
            · (simp only [List.getElem?_toArray, List.getElem?_cons_zero, List.getElem?_cons_succ]; rfl)
            go_simp
            refine hK.out _ _ (HBO.out _ (X1.alloc _)) ?_
            clear hK K
            (try simp only [Act.put, List.setIfInBounds_toArray, List.set_cons_zero, List.set_cons_succ])
            have ho1b : OwnI (w1.alloc (.cells #[.int .i64 (-(m : Int))] 3)) wo.heap.size 3 u1 a := own_ext ho1 (Ext.new _ _)
            have hr1b : RdI (w1.alloc (.cells #[.int .i64 (-(m : Int))] 3)) (.slice (some ⟨w1.heap.size, 0, none⟩) 1 1) [(-(m : Int))] := rdI_at (heap_n1 _ _)
            have X1b : Ext wo (w1.alloc (.cells #[.int .i64 (-(m : Int))] 3)) := X1.alloc _
            clear ho1 X1 hx1 hu1
            generalize w1.alloc (.cells #[.int .i64 (-(m : Int))] 3) = wb at *
            generalize w1.heap.size = bb at *
            refine ordG_all (rs := [8]) (by kernel_rfl) (by simp) (by decide) ?_
            refine' ordG_cons (o := _) ?_ (fun K hK => ?_) ordG_nil
            rotate_left 1
            · (simp only [List.getElem?_toArray, List.getElem?_cons_zero, List.getElem?_cons_succ]; rfl)
            refine stepSI _ (v := u1) (src := .slice (some ⟨bb, 0, none⟩) 1 1) (xs := a) (ys := [(-(m : Int))]) (base := wo.heap.size) ho1b hr1b rfl (.tmp 45) (.tmp 48) rfl (by rfl) (by rfl) (by simp; omega) X1b.size ?_
            intro u2 w2 ho2 hg2 hb2
            have X2 : Ext wo w2 := ext_appS X1b hg2 (fun g hg => ownI_ge ho1b g hg)
            obtain ⟨a2, c2, e2⟩ := some_ownN ho2 (n := a.length + 1) (by simp) (by omega)
            subst e2
            have hrw := rowR_own ho2 (by simp)
            refine hK.out _ _ (HBO.out _ X2) ?_
            clear hK K
            (try simp only [Act.put, List.setIfInBounds_toArray, List.set_cons_zero, List.set_cons_succ])
            refine ordG_all (rs := [10]) (by kernel_rfl) (by simp) (by decide) ?_
            refine' ordG_cons (o := _) ?_ (fun K hK => ?_) ordG_nil
            rotate_left 1
            · (simp only [List.getElem?_toArray, List.getElem?_cons_zero, List.getElem?_cons_succ]; rfl)
            go_simp
            go_at_call 42
            refine (IH.out (a ++ [(-(m : Int))]) _ _ w2 HRM.out (HRO.out _ X2) hrw).mono ?_
            rintro e w3 ⟨a3, c3, zs3, rfl, ho3, hr3, hs3, hx3⟩
            have X3 : Ext wo w3 := X2.trans hx3
            have hl3 : zs3.length ≤ 729 := by rw [← List.length_map (f := Prod.snd), hs3]; exact HLM.out
            have HR3 := hd hr3
            have HS3 := hd hs3
            clear hr3 hs3
            go_simp
            refine hK.out _ _ (HBO.out _ X3) ?_
            clear hK K
            (try simp only [Act.put, List.setIfInBounds_toArray, List.set_cons_zero, List.set_cons_succ])
            refine ordG_all (rs := [11]) (by kernel_rfl) (by simp) (by decide) ?_
            refine' ordG_cons (o := _) ?_ (fun K hK => ?_) ordG_nil
            rotate_left 1
            · (simp only [List.getElem?_toArray, List.getElem?_cons_zero, List.getElem?_cons_succ]; rfl)
            refine stepZ _ (v := .slice (some a4) zs5.length c4) (src := .slice (some a3) zs3.length c3) (zs := zs5) (ys := zs3) (lo := w.heap.size + 1) (own_ext HO4.out X3) (own_rd ho3) (rows_cells HR3.out) rfl (.tmp 41) (.tmp 51) rfl (by rfl) (by rfl) (by omega) (by have := X3.size; omega) ?_
            intro u4 w4 ho4 hg4 hb4
            have X4 : Ext (w.alloc (.cells #[.int .i64 (n : Int), .slice A cs.length c] 28)) w4 := ext_appS (HX4.out.trans X3) hg4 (by have := ownZ_ge HO4.out; rw [World.size_alloc]; exact this)
            have HR4 : Hid (∀ z ∈ zs5 ++ zs3, RowR w4 z) := hd (rows_grown HO4.out HR4 HR3 X3 hg4)
            refine hK.out _ _ (HBX.out _ X4) ?_
            clear hK K
            (try simp only [Act.put, List.setIfInBounds_toArray, List.set_cons_zero, List.set_cons_succ])
            refine ordG_last (by kernel_rfl) (by kernel_rfl) ?_
            refine' wpOp_step (o := _) ?_ (fun K hK => ?_)
            rotate_left 1
            · (simp only [List.getElem?_toArray, List.getElem?_cons_zero, List.getElem?_cons_succ]; rfl)
            go_simp
            refine hK _ _ ?_
            clear hK K
            (try simp only [Act.put, List.setIfInBounds_toArray, List.set_cons_zero, List.set_cons_succ])
            have HO4 := hd ho4
            have HX4 := hd X4
            have HS4 : Hid ((zs5 ++ zs3).map Prod.snd ++ ((loopS (alwB cs q) n d1 a)) = treeS (alwB cs q) n d a) := hd (by rw [List.map_append, HS3.out, List.append_assoc]; exact HS4.out)
            have hl4 : (zs5 ++ zs3).length ≤ 729 := by
              have e := congrArg List.length HS4.out
              rw [List.length_append, List.length_map] at e
              have := HTL.out
              omega
            obtain ⟨a4, c4, e4⟩ := outZ_some ho4 (by have := HP4.out; rw [List.length_append]; omega)
            subst e4
            clear ho4 X4 hg4 hb4 HR3 HS3 k0 k1 HBO HAO HRO HS ho3 hx3 X3 X2 ho2 hg2 hb2 hr1b ho1b X1b
            have HP4 : Hid (0 < (zs5 ++ zs3).length) := hd (by have := HP4.out; rw [List.length_append]; omega)
            generalize zs5 ++ zs3 = zs6 at *
            go_wp2
            go_roundw
            case rel => exact ⟨m + 1, d1, zs6, a4, c4, by omega, HP4.out, by omega, by omega, by go_num, rfl, HO4.out, HR4, HS4, HX4.out⟩
            case measure => simp [intOf]; omega
          refine' ordG_cons (o := _) ?_ (fun K hK => ?_) ?_
          rotate_left 1
          · (simp only [List.getElem?_toArray, List.getElem?_cons_zero, List.getElem?_cons_succ]; rfl)
          ·
            go_simp
            refine hK.out _ _ (HBO.out _ ((Ext.refl _).drew.alloc _)) ?_
            clear hK K
            (try simp only [Act.put, List.setIfInBounds_toArray, List.set_cons_zero, List.set_cons_succ])
            refine ordG_all (rs := [4]) (by kernel_rfl) (by simp) (by decide) ?_
            refine' ordG_cons (o := _) ?_ (fun K hK => ?_) ordG_nil
            rotate_left 1
            · (simp only [List.getElem?_toArray, List.getElem?_cons_zero, List.getElem?_cons_succ]; rfl)
            go_simp
            go_at_call 27
            refine (s_l1Own a _ _ (HAO.out _ ((Ext.refl _).drew.alloc _)) (by omega)).mono ?_
            rintro e wb ⟨u1, rfl, hu1, hx1⟩
            have X1b : Ext wo wb := Ext.trans ((Ext.refl _).drew.alloc _) hx1
            have ho1b : OwnI wb wo.heap.size 3 u1 a := own_rebase hu1 (by simp)
            have hr1b : RdI wb (.slice (some ⟨wo.heap.size, 0, none⟩) 1 1) [(-(m : Int))] := rdI_at (hx1.heap (heap_n1 wo.drew _))
            go_simp
            refine hK.out _ _ (HBO.out _ X1b) ?_
            clear hK K
            (try simp only [Act.put, List.setIfInBounds_toArray, List.set_cons_zero, List.set_cons_succ])
            clear hx1 hu1
            generalize hbb : wo.heap.size = bb at hr1b
            refine ordG_all (rs := [8]) (by kernel_rfl) (by simp) (by decide) ?_
            refine' ordG_cons (o := _) ?_ (fun K hK => ?_) ordG_nil
            rotate_left 1
            · (simp only [List.getElem?_toArray, List.getElem?_cons_zero, List.getElem?_cons_succ]; rfl)
            refine stepSI _ (v := u1) (src := .slice (some ⟨bb, 0, none⟩) 1 1) (xs := a) (ys := [(-(m : Int))]) (base := wo.heap.size) ho1b hr1b rfl (.tmp 45) (.tmp 48) rfl (by rfl) (by rfl) (by simp; omega) X1b.size ?_
            intro u2 w2 ho2 hg2 hb2
            have X2 : Ext wo w2 := ext_appS X1b hg2 (fun g hg => ownI_ge ho1b g hg)
            obtain ⟨a2, c2, e2⟩ := some_ownN ho2 (n := a.length + 1) (by simp) (by omega)
            subst e2
            have hrw := rowR_own ho2 (by simp)
            refine hK.out _ _ (HBO.out _ X2) ?_
            clear hK K
            (try simp only [Act.put, List.setIfInBounds_toArray, List.set_cons_zero, List.set_cons_succ])
            refine ordG_all (rs := [10]) (by kernel_rfl) (by simp) (by decide) ?_
            refine' ordG_cons (o := _) ?_ (fun K hK => ?_) ordG_nil
            rotate_left 1
            · (simp only [List.getElem?_toArray, List.getElem?_cons_zero, List.getElem?_cons_succ]; rfl)
            go_simp
            go_at_call 42
            refine (IH.out (a ++ [(-(m : Int))]) _ _ w2 HRM.out (HRO.out _ X2) hrw).mono ?_
            rintro e w3 ⟨a3, c3, zs3, rfl, ho3, hr3, hs3, hx3⟩
            have X3 : Ext wo w3 := X2.trans hx3
            have hl3 : zs3.length ≤ 729 := by rw [← List.length_map (f := Prod.snd), hs3]; exact HLM.out
            have HR3 := hd hr3
            have HS3 := hd hs3
            clear hr3 hs3
            go_simp
            refine hK.out _ _ (HBO.out _ X3) ?_
            clear hK K
            (try simp only [Act.put, List.setIfInBounds_toArray, List.set_cons_zero, List.set_cons_succ])
            refine ordG_all (rs := [11]) (by kernel_rfl) (by simp) (by decide) ?_
            refine' ordG_cons (o := _) ?_ (fun K hK => ?_) ordG_nil
            rotate_left 1
            · (simp only [List.getElem?_toArray, List.getElem?_cons_zero, List.getElem?_cons_succ]; rfl)
            refine stepZ _ (v := .slice (some a4) zs5.length c4) (src := .slice (some a3) zs3.length c3) (zs := zs5) (ys := zs3) (lo := w.heap.size + 1) (own_ext HO4.out X3) (own_rd ho3) (rows_cells HR3.out) rfl (.tmp 41) (.tmp 51) rfl (by rfl) (by rfl) (by omega) (by have := X3.size; omega) ?_
            intro u4 w4 ho4 hg4 hb4
            have X4 : Ext (w.alloc (.cells #[.int .i64 (n : Int), .slice A cs.length c] 28)) w4 := ext_appS (HX4.out.trans X3) hg4 (by have := ownZ_ge HO4.out; rw [World.size_alloc]; exact this)
            have HR4 : Hid (∀ z ∈ zs5 ++ zs3, RowR w4 z) := hd (rows_grown HO4.out HR4 HR3 X3 hg4)
            refine hK.out _ _ (HBX.out _ X4) ?_
            clear hK K
            (try simp only [Act.put, List.setIfInBounds_toArray, List.set_cons_zero, List.set_cons_succ])
            refine ordG_last (by kernel_rfl) (by kernel_rfl) ?_
            refine' wpOp_step (o := _) ?_ (fun K hK => ?_)
            rotate_left 1
            · (simp only [List.getElem?_toArray, List.getElem?_cons_zero, List.getElem?_cons_succ]; rfl)
            go_simp
            refine hK _ _ ?_
            clear hK K
            (try simp only [Act.put, List.setIfInBounds_toArray, List.set_cons_zero, List.set_cons_succ])
            have HO4 := hd ho4
            have HX4 := hd X4
            have HS4 : Hid ((zs5 ++ zs3).map Prod.snd ++ ((loopS (alwB cs q) n d1 a)) = treeS (alwB cs q) n d a) := hd (by rw [List.map_append, HS3.out, List.append_assoc]; exact HS4.out)
            have hl4 : (zs5 ++ zs3).length ≤ 729 := by
              have e := congrArg List.length HS4.out
              rw [List.length_append, List.length_map] at e
              have := HTL.out
              omega
            obtain ⟨a4, c4, e4⟩ := outZ_some ho4 (by have := HP4.out; rw [List.length_append]; omega)
            subst e4
            clear ho4 X4 hg4 hb4 HR3 HS3 k0 k1 HBO HAO HRO HS ho3 hx3 X3 X2 ho2 hg2 hb2 hr1b ho1b X1b
            have HP4 : Hid (0 < (zs5 ++ zs3).length) := hd (by have := HP4.out; rw [List.length_append]; omega)
            generalize zs5 ++ zs3 = zs6 at *
            go_wp2
            go_roundw
            case rel => exact ⟨m + 1, d1, zs6, a4, c4, by omega, HP4.out, by omega, by omega, by go_num, rfl, HO4.out, HR4, HS4, HX4.out⟩
            case measure => simp [intOf]; omega
          exact ordG_nil
        refine' ordG_cons (o := _) ?_ (fun K hK => ?_) ?_
        rotate_left 1
        · (simp only [List.getElem?_toArray, List.getElem?_cons_zero, List.getElem?_cons_succ]; rfl)
        ·
          go_simp
          refine hK.out _ _ (HBO.out _ ((Ext.refl _).drew.alloc _)) ?_
          clear hK K
          (try simp only [Act.put, List.setIfInBounds_toArray, List.set_cons_zero, List.set_cons_succ])
          refine ordG_all (rs := [4]) (by kernel_rfl) (by simp) (by decide) ?_
          refine' ordG_cons (o := _) ?_ (fun K hK => ?_) ordG_nil
          rotate_left 1
          · (simp only [List.getElem?_toArray, List.getElem?_cons_zero, List.getElem?_cons_succ]; rfl)
          go_simp
          go_at_call 27
          refine (s_l1Own a _ _ (HAO.out _ ((Ext.refl _).drew.alloc _)) (by omega)).mono ?_
          rintro e wb ⟨u1, rfl, hu1, hx1⟩
          have X1b : Ext wo wb := Ext.trans ((Ext.refl _).drew.alloc _) hx1
          have ho1b : OwnI wb wo.heap.size 3 u1 a := own_rebase hu1 (by simp)
          have hr1b : RdI wb (.slice (some ⟨wo.heap.size, 0, none⟩) 1 1) [(m : Int)] := rdI_at (hx1.heap (heap_n1 wo.drew _))
          go_simp
          refine hK.out _ _ (HBO.out _ X1b) ?_
          clear hK K
          (try simp only [Act.put, List.setIfInBounds_toArray, List.set_cons_zero, List.set_cons_succ])
          clear hx1 hu1
          generalize hbb : wo.heap.size = bb at hr1b
          refine ordG_all (rs := [7]) (by kernel_rfl) (by simp) (by decide) ?_
          refine' ordG_cons (o := _) ?_ (fun K hK => ?_) ordG_nil
          rotate_left 1
          · (simp only [List.getElem?_toArray, List.getElem?_cons_zero, List.getElem?_cons_succ]; rfl)
          refine stepSI _ (v := u1) (src := .slice (some ⟨bb, 0, none⟩) 1 1) (xs := a) (ys := [(m : Int)]) (base := wo.heap.size) ho1b hr1b rfl (.tmp 34) (.tmp 36) rfl (by rfl) (by rfl) (by simp; omega) X1b.size ?_
          intro u2 w2 ho2 hg2 hb2
          have X2 : Ext wo w2 := ext_appS X1b hg2 (fun g hg => ownI_ge ho1b g hg)
          obtain ⟨a2, c2, e2⟩ := some_ownN ho2 (n := a.length + 1) (by simp) (by omega)
          subst e2
          have hrw := rowR_own ho2 (by simp)
          refine hK.out _ _ (HBO.out _ X2) ?_
          clear hK K
          (try simp only [Act.put, List.setIfInBounds_toArray, List.set_cons_zero, List.set_cons_succ])
          refine ordG_all (rs := [9]) (by kernel_rfl) (by simp) (by decide) ?_
          refine' ordG_cons (o := _) ?_ (fun K hK => ?_) ordG_nil
          rotate_left 1
          · (simp only [List.getElem?_toArray, List.getElem?_cons_zero, List.getElem?_cons_succ]; rfl)
          go_simp
          go_at_call 42
          refine (IH.out (a ++ [(m : Int)]) _ _ w2 HRP.out (HRO.out _ X2) hrw).mono ?_
          rintro e w3 ⟨a3, c3, zs3, rfl, ho3, hr3, hs3, hx3⟩
          have X3 : Ext wo w3 := X2.trans hx3
          have hl3 : zs3.length ≤ 729 := by rw [← List.length_map (f := Prod.snd), hs3]; exact HLP.out
          have HR3 := hd hr3
          have HS3 := hd hs3
          clear hr3 hs3
          go_simp
          refine hK.out _ _ (HBO.out _ X3) ?_
          clear hK K
          (try simp only [Act.put, List.setIfInBounds_toArray, List.set_cons_zero, List.set_cons_succ])
          refine ordG_all (rs := [10]) (by kernel_rfl) (by simp) (by decide) ?_
          refine' ordG_cons (o := _) ?_ (fun K hK => ?_) ordG_nil
          rotate_left 1
          · (simp only [List.getElem?_toArray, List.getElem?_cons_zero, List.getElem?_cons_succ]; rfl)
          refine stepZ _ (v := .slice (some ao) zs.length co) (src := .slice (some a3) zs3.length c3) (zs := zs) (ys := zs3) (lo := w.heap.size + 1) (own_ext HO.out X3) (own_rd ho3) (rows_cells HR3.out) rfl (.tmp 30) (.tmp 39) rfl (by rfl) (by rfl) (by omega) (by have := X3.size; omega) ?_
          intro u4 w4 ho4 hg4 hb4
          have X4 : Ext (w.alloc (.cells #[.int .i64 (n : Int), .slice A cs.length c] 28)) w4 := ext_appS (HX.out.trans X3) hg4 (by have := ownZ_ge HO.out; rw [World.size_alloc]; exact this)
          have HR4 : Hid (∀ z ∈ zs ++ zs3, RowR w4 z) := hd (rows_grown HO.out HR HR3 X3 hg4)
          refine hK.out _ _ (HBX.out _ X4) ?_
          clear hK K
          (try simp only [Act.put, List.setIfInBounds_toArray, List.set_cons_zero, List.set_cons_succ])
          refine ordG_last (by kernel_rfl) (by kernel_rfl) ?_
          refine' wpOp_step (o := _) ?_ (fun K hK => ?_)
          rotate_left 1
          · (simp only [List.getElem?_toArray, List.getElem?_cons_zero, List.getElem?_cons_succ]; rfl)
          go_simp
          refine hK _ _ ?_
          clear hK K
          (try simp only [Act.put, List.setIfInBounds_toArray, List.set_cons_zero, List.set_cons_succ])
          have HO4 := hd ho4
          have HX4 := hd X4
          have HS4 : Hid ((zs ++ zs3).map Prod.snd ++ ((treeS (alwB cs q) n d1 (a ++ [-(m : Int)]) ++ loopS (alwB cs q) n d1 a)) = treeS (alwB cs q) n d a) := hd (by rw [List.map_append, HS3.out, List.append_assoc]; exact HSS.out)
          have hl4 : (zs ++ zs3).length ≤ 729 := by
            have e := congrArg List.length HS4.out
            rw [List.length_append, List.length_map] at e
            have := HTL.out
            omega
          obtain ⟨a4, c4, e4⟩ := outZ_some ho4 (by have := HP.out; rw [List.length_append]; omega)
          subst e4
          clear ho4 X4 hg4 hb4 HR3 HS3 k0 k1 HBO HAO HRO HS ho3 hx3 X3 X2 ho2 hg2 hb2 hr1b ho1b X1b
          have HP4 : Hid (0 < (zs ++ zs3).length) := hd (by have := HP.out; rw [List.length_append]; omega)
          generalize zs ++ zs3 = zs5 at *
          obtain ⟨wo, rfl⟩ : ∃ wo : World, wo = w4 := ⟨_, rfl⟩
          have HBO : Hid (∀ w' : World, Ext wo w' → w'.cell? ⟨w.heap.size, 0, none⟩ = some (.int .i64 (n : Int)) ∧ w'.cell? ⟨w.heap.size, 1, none⟩ = some (.slice A cs.length c)) := hd fun w' hx => HBX.out w' (HX4.out.trans hx)
          have HAO := hd (fun w' (hx : Ext wo w') => HA.out.ext ((HN.out.trans HX4.out).trans hx))
          have HRO := hd (fun w' (hx : Ext wo w') => HV.out.ext ((HN.out.trans HX4.out).trans hx))
          have hso := HX4.out.size
          rw [World.size_alloc] at hso
          obtain ⟨k0, k1⟩ := HBO.out _ (Ext.refl _)
          go_wp2_with fail
          refine wp_region_sink (fun w' => (w').cell? ⟨w.heap.size, 0, none⟩ = some (.int .i64 (n : Int)) ∧ (w').cell? ⟨w.heap.size, 1, none⟩ = some (.slice A cs.length c)) 12 13 #[false, false, false, false, false, false, false, false, false, false, false, false, false] (by kernel_rfl) (by kernel_rfl) (by kernel_rfl) ?_
          have HS := HBO.out _ (Ext.refl wo).drew
          refine' ordG_take 0 (oi := _) (v := _) ?_ ?_ ?_ (Or.inl ⟨?_, ?_⟩) ?_ ?_
          rotate_left 2
          · (simp only [List.getElem?_toArray, List.getElem?_cons_zero]; rfl)
          · kernel_rfl
          · exact fun _ _ _ h => h
          · rfl
          · (intro w hSw; (try dsimp only at hSw); go_simp; (try with_reducible rfl))
          · exact HS
          (try simp only [Act.put, List.setIfInBounds_toArray, List.set_cons_zero, List.set_cons_succ])
          refine' ordG_take 1 (oi := _) (v := _) ?_ ?_ ?_ (Or.inl ⟨?_, ?_⟩) ?_ ?_
          rotate_left 2
          · (simp only [List.getElem?_toArray, List.getElem?_cons_zero, List.getElem?_cons_succ]; rfl)
          · kernel_rfl
          · exact fun _ _ _ h => h
          · rfl
          · (intro w hSw; (try dsimp only at hSw); go_simp; (try with_reducible rfl))
          · exact HS
          (try simp only [Act.put, List.setIfInBounds_toArray, List.set_cons_zero, List.set_cons_succ])
          refine' ordG_take 2 (oi := _) (v := _) ?_ ?_ ?_ (Or.inl ⟨?_, ?_⟩) ?_ ?_
          rotate_left 2
          · (simp only [List.getElem?_toArray, List.getElem?_cons_zero, List.getElem?_cons_succ]; rfl)
          · kernel_rfl
          · exact fun _ _ _ h => h
          · rfl
          · (intro w hSw; (try dsimp only at hSw); go_simp; (try with_reducible rfl))
          · exact HS
          (try simp only [Act.put, List.setIfInBounds_toArray, List.set_cons_zero, List.set_cons_succ])
          refine' ordG_take 3 (oi := _) (v := _) ?_ ?_ ?_ (Or.inl ⟨?_, ?_⟩) ?_ ?_
          rotate_left 2
          · (simp only [List.getElem?_toArray, List.getElem?_cons_zero, List.getElem?_cons_succ]; rfl)
          · kernel_rfl
          · exact fun _ _ _ h => h
          · rfl
          · (intro w hSw; (try dsimp only at hSw); go_simp; (try with_reducible rfl))
          · exact HS
          (try simp only [Act.put, List.setIfInBounds_toArray, List.set_cons_zero, List.set_cons_succ])
          refine' ordG_take 5 (oi := _) (v := _) ?_ ?_ ?_ (Or.inl ⟨?_, ?_⟩) ?_ ?_
          rotate_left 2
          · (simp only [List.getElem?_toArray, List.getElem?_cons_zero, List.getElem?_cons_succ]; rfl)
          · kernel_rfl
          · exact fun _ _ _ h => h
          · rfl
          · (intro w hSw; (try dsimp only at hSw); go_simp; (try with_reducible rfl))
          · exact HS
          (try simp only [Act.put, List.setIfInBounds_toArray, List.set_cons_zero, List.set_cons_succ])
          refine' ordG_take 6 (oi := _) (v := _) ?_ ?_ ?_ (Or.inl ⟨?_, ?_⟩) ?_ ?_
          rotate_left 2
          · (simp only [List.getElem?_toArray, List.getElem?_cons_zero, List.getElem?_cons_succ]; rfl)
          · kernel_rfl
          · exact fun _ _ _ h => h
          · rfl
          · (intro w hSw; (try dsimp only at hSw); go_simp; (try with_reducible rfl))
          · exact HS
          (try simp only [Act.put, List.setIfInBounds_toArray, List.set_cons_zero, List.set_cons_succ])
          refine' ordG_take 9 (oi := _) (v := _) ?_ ?_ ?_ (Or.inl ⟨?_, ?_⟩) ?_ ?_
          rotate_left 2
          · (simp only [List.getElem?_toArray, List.getElem?_cons_zero, List.getElem?_cons_succ]; rfl)
          · kernel_rfl
          · exact fun _ _ _ h => h
          · rfl
          · (intro w hSw; (try dsimp only at hSw); go_simp; (try with_reducible rfl))
          · exact HS
          (try simp only [Act.put, List.setIfInBounds_toArray, List.set_cons_zero, List.set_cons_succ])
          refine ordG_all (rs := [4, 7]) (by kernel_rfl) (by simp) (by decide) ?_
          refine' ordG_cons (o := _) ?_ (fun K hK => ?_) ?_
          rotate_left 1
          · (simp only [List.getElem?_toArray, List.getElem?_cons_zero, List.getElem?_cons_succ]; rfl)
          ·
            go_simp
            go_at_call 27
            refine (s_l1Own a _ _ (HAO.out _ (Ext.refl _).drew) (by omega)).mono ?_
            rintro e w1 ⟨u1, rfl, hu1, hx1⟩
            have X1 : Ext wo w1 := Ext.trans (Ext.refl _).drew hx1
            have ho1 : OwnI w1 wo.heap.size 3 u1 a := own_rebase hu1 (by simp)
            go_simp
            refine hK.out _ _ (HBO.out _ X1) ?_
            clear hK K
            (try simp only [Act.put, List.setIfInBounds_toArray, List.set_cons_zero, List.set_cons_succ])
            refine ordG_all (rs := [7]) (by kernel_rfl) (by simp) (by decide) ?_
            refine' ordG_cons (o := _) ?_ (fun K hK => ?_) ordG_nil
            rotate_left 1
            · (simp only [List.getElem?_toArray, List.getElem?_cons_zero, List.getElem?_cons_succ]; rfl)
            go_simp
            refine hK.out _ _ (HBO.out _ (X1.alloc _)) ?_
            clear hK K
            (try simp only [Act.put, List.setIfInBounds_toArray, List.set_cons_zero, List.set_cons_succ])
            have ho1b : OwnI (w1.alloc (.cells #[.int .i64 (-(m : Int))] 3)) wo.heap.size 3 u1 a := own_ext ho1 (Ext.new _ _)
            have hr1b : RdI (w1.alloc (.cells #[.int .i64 (-(m : Int))] 3)) (.slice (some ⟨w1.heap.size, 0, none⟩) 1 1) [(-(m : Int))] := rdI_at (heap_n1 _ _)
            have X1b : Ext wo (w1.alloc (.cells #[.int .i64 (-(m : Int))] 3)) := X1.alloc _
            clear ho1 X1 hx1 hu1
            generalize w1.alloc (.cells #[.int .i64 (-(m : Int))] 3) = wb at *
            generalize w1.heap.size = bb at *
            refine ordG_all (rs := [8]) (by kernel_rfl) (by simp) (by decide) ?_
            refine' ordG_cons (o := _) ?_ (fun K hK => ?_) ordG_nil
            rotate_left 1
            · (simp only [List.getElem?_toArray, List.getElem?_cons_zero, List.getElem?_cons_succ]; rfl)
            refine stepSI _ (v := u1) (src := .slice (some ⟨bb, 0, none⟩) 1 1) (xs := a) (ys := [(-(m : Int))]) (base := wo.heap.size) ho1b hr1b rfl (.tmp 45) (.tmp 48) rfl (by rfl) (by rfl) (by simp; omega) X1b.size ?_
            intro u2 w2 ho2 hg2 hb2
            have X2 : Ext wo w2 := ext_appS X1b hg2 (fun g hg => ownI_ge ho1b g hg)
            obtain ⟨a2, c2, e2⟩ := some_ownN ho2 (n := a.length + 1) (by simp) (by omega)
            subst e2
            have hrw := rowR_own ho2 (by simp)
            refine hK.out _ _ (HBO.out _ X2) ?_
            clear hK K
            (try simp only [Act.put, List.setIfInBounds_toArray, List.set_cons_zero, List.set_cons_succ])
            refine ordG_all (rs := [10]) (by kernel_rfl) (by simp) (by decide) ?_
            refine' ordG_cons (o := _) ?_ (fun K hK => ?_) ordG_nil
            rotate_left 1
            · (simp only [List.getElem?_toArray, List.getElem?_cons_zero, List.getElem?_cons_succ]; rfl)
            go_simp
            go_at_call 42
            refine (IH.out (a ++ [(-(m : Int))]) _ _ w2 HRM.out (HRO.out _ X2) hrw).mono ?_
            rintro e w3 ⟨a3, c3, zs3, rfl, ho3, hr3, hs3, hx3⟩
            have X3 : Ext wo w3 := X2.trans hx3
            have hl3 : zs3.length ≤ 729 := by rw [← List.length_map (f := Prod.snd), hs3]; exact HLM.out
            have HR3 := hd hr3
            have HS3 := hd hs3
            clear hr3 hs3
            go_simp
            refine hK.out _ _ (HBO.out _ X3) ?_
            clear hK K
            (try simp only [Act.put, List.setIfInBounds_toArray, List.set_cons_zero, List.set_cons_succ])
            refine ordG_all (rs := [11]) (by kernel_rfl) (by simp) (by decide) ?_
            refine' ordG_cons (o := _) ?_ (fun K hK => ?_) ordG_nil
            rotate_left 1
            · (simp only [List.getElem?_toArray, List.getElem?_cons_zero, List.getElem?_cons_succ]; rfl)
            refine stepZ _ (v := .slice (some a4) zs5.length c4) (src := .slice (some a3) zs3.length c3) (zs := zs5) (ys := zs3) (lo := w.heap.size + 1) (own_ext HO4.out X3) (own_rd ho3) (rows_cells HR3.out) rfl (.tmp 41) (.tmp 51) rfl (by rfl) (by rfl) (by omega) (by have := X3.size; omega) ?_
            intro u4 w4 ho4 hg4 hb4
            have X4 : Ext (w.alloc (.cells #[.int .i64 (n : Int), .slice A cs.length c] 28)) w4 := ext_appS (HX4.out.trans X3) hg4 (by have := ownZ_ge HO4.out; rw [World.size_alloc]; exact this)
            have HR4 : Hid (∀ z ∈ zs5 ++ zs3, RowR w4 z) := hd (rows_grown HO4.out HR4 HR3 X3 hg4)
            refine hK.out _ _ (HBX.out _ X4) ?_
            clear hK K
            (try simp only [Act.put, List.setIfInBounds_toArray, List.set_cons_zero, List.set_cons_succ])
            refine ordG_last (by kernel_rfl) (by kernel_rfl) ?_
            refine' wpOp_step (o := _) ?_ (fun K hK => ?_)
            rotate_left 1
            · (simp only [List.getElem?_toArray, List.getElem?_cons_zero, List.getElem?_cons_succ]; rfl)
            go_simp
            refine hK _ _ ?_
            clear hK K
            (try simp only [Act.put, List.setIfInBounds_toArray, List.set_cons_zero, List.set_cons_succ])
            have HO4 := hd ho4
            have HX4 := hd X4
            have HS4 : Hid ((zs5 ++ zs3).map Prod.snd ++ ((loopS (alwB cs q) n d1 a)) = treeS (alwB cs q) n d a) := hd (by rw [List.map_append, HS3.out, List.append_assoc]; exact HS4.out)
            have hl4 : (zs5 ++ zs3).length ≤ 729 := by
              have e := congrArg List.length HS4.out
              rw [List.length_append, List.length_map] at e
              have := HTL.out
              omega
            obtain ⟨a4, c4, e4⟩ := outZ_some ho4 (by have := HP4.out; rw [List.length_append]; omega)
            subst e4
            clear ho4 X4 hg4 hb4 HR3 HS3 k0 k1 HBO HAO HRO HS ho3 hx3 X3 X2 ho2 hg2 hb2 hr1b ho1b X1b
            have HP4 : Hid (0 < (zs5 ++ zs3).length) := hd (by have := HP4.out; rw [List.length_append]; omega)
            generalize zs5 ++ zs3 = zs6 at *
            go_wp2
            go_roundw
            case rel => exact ⟨m + 1, d1, zs6, a4, c4, by omega, HP4.out, by omega, by omega, by go_num, rfl, HO4.out, HR4, HS4, HX4.out⟩
            case measure => simp [intOf]; omega
          refine' ordG_cons (o := _) ?_ (fun K hK => ?_) ?_
          rotate_left 1
          · (simp only [List.getElem?_toArray, List.getElem?_cons_zero, List.getElem?_cons_succ]; rfl)
          ·
            go_simp
            refine hK.out _ _ (HBO.out _ ((Ext.refl _).drew.alloc _)) ?_
            clear hK K
            (try simp only [Act.put, List.setIfInBounds_toArray, List.set_cons_zero, List.set_cons_succ])
            refine ordG_all (rs := [4]) (by kernel_rfl) (by simp) (by decide) ?_
            refine' ordG_cons (o := _) ?_ (fun K hK => ?_) ordG_nil
            rotate_left 1
            · (simp only [List.getElem?_toArray, List.getElem?_cons_zero, List.getElem?_cons_succ]; rfl)
            go_simp
            go_at_call 27
            refine (s_l1Own a _ _ (HAO.out _ ((Ext.refl _).drew.alloc _)) (by omega)).mono ?_
            rintro e wb ⟨u1, rfl, hu1, hx1⟩
            have X1b : Ext wo wb := Ext.trans ((Ext.refl _).drew.alloc _) hx1
            have ho1b : OwnI wb wo.heap.size 3 u1 a := own_rebase hu1 (by simp)
            have hr1b : RdI wb (.slice (some ⟨wo.heap.size, 0, none⟩) 1 1) [(-(m : Int))] := rdI_at (hx1.heap (heap_n1 wo.drew _))
            go_simp
            refine hK.out _ _ (HBO.out _ X1b) ?_
            clear hK K
            (try simp only [Act.put, List.setIfInBounds_toArray, List.set_cons_zero, List.set_cons_succ])
            clear hx1 hu1
            generalize hbb : wo.heap.size = bb at hr1b
            refine ordG_all (rs := [8]) (by kernel_rfl) (by simp) (by decide) ?_
            refine' ordG_cons (o := _) ?_ (fun K hK => ?_) ordG_nil
            rotate_left 1
            · (simp only [List.getElem?_toArray, List.getElem?_cons_zero, List.getElem?_cons_succ]; rfl)
            refine stepSI _ (v := u1) (src := .slice (some ⟨bb, 0, none⟩) 1 1) (xs := a) (ys := [(-(m : Int))]) (base := wo.heap.size) ho1b hr1b rfl (.tmp 45) (.tmp 48) rfl (by rfl) (by rfl) (by simp; omega) X1b.size ?_
            intro u2 w2 ho2 hg2 hb2
            have X2 : Ext wo w2 := ext_appS X1b hg2 (fun g hg => ownI_ge ho1b g hg)
            obtain ⟨a2, c2, e2⟩ := some_ownN ho2 (n := a.length + 1) (by simp) (by omega)
            subst e2
            have hrw := rowR_own ho2 (by simp)
            refine hK.out _ _ (HBO.out _ X2) ?_
            clear hK K
            (try simp only [Act.put, List.setIfInBounds_toArray, List.set_cons_zero, List.set_cons_succ])
            refine ordG_all (rs := [10]) (by kernel_rfl) (by simp) (by decide) ?_
            refine' ordG_cons (o := _) ?_ (fun K hK => ?_) ordG_nil
            rotate_left 1
            · (simp only [List.getElem?_toArray, List.getElem?_cons_zero, List.getElem?_cons_succ]; rfl)
            go_simp
            go_at_call 42
            refine (IH.out (a ++ [(-(m : Int))]) _ _ w2 HRM.out (HRO.out _ X2) hrw).mono ?_
            rintro e w3 ⟨a3, c3, zs3, rfl, ho3, hr3, hs3, hx3⟩
            have X3 : Ext wo w3 := X2.trans hx3
            have hl3 : zs3.length ≤ 729 := by rw [← List.length_map (f := Prod.snd), hs3]; exact HLM.out
            have HR3 := hd hr3
            have HS3 := hd hs3
            clear hr3 hs3
            go_simp
            refine hK.out _ _ (HBO.out _ X3) ?_
            clear hK K
            (try simp only [Act.put, List.setIfInBounds_toArray, List.set_cons_zero, List.set_cons_succ])
            refine ordG_all (rs := [11]) (by kernel_rfl) (by simp) (by decide) ?_
            refine' ordG_cons (o := _) ?_ (fun K hK => ?_) ordG_nil
            rotate_left 1
            · (simp only [List.getElem?_toArray, List.getElem?_cons_zero, List.getElem?_cons_succ]; rfl)
            refine stepZ _ (v := .slice (some a4) zs5.length c4) (src := .slice (some a3) zs3.length c3) (zs := zs5) (ys := zs3) (lo := w.heap.size + 1) (own_ext HO4.out X3) (own_rd ho3) (rows_cells HR3.out) rfl (.tmp 41) (.tmp 51) rfl (by rfl) (by rfl) (by omega) (by have := X3.size; omega) ?_
            intro u4 w4 ho4 hg4 hb4
            have X4 : Ext (w.alloc (.cells #[.int .i64 (n : Int), .slice A cs.length c] 28)) w4 := ext_appS (HX4.out.trans X3) hg4 (by have := ownZ_ge HO4.out; rw [World.size_alloc]; exact this)
            have HR4 : Hid (∀ z ∈ zs5 ++ zs3, RowR w4 z) := hd (rows_grown HO4.out HR4 HR3 X3 hg4)
            refine hK.out _ _ (HBX.out _ X4) ?_
            clear hK K
            (try simp only [Act.put, List.setIfInBounds_toArray, List.set_cons_zero, List.set_cons_succ])
            refine ordG_last (by kernel_rfl) (by kernel_rfl) ?_
            refine' wpOp_step (o := _) ?_ (fun K hK => ?_)
            rotate_left 1
            · (simp only [List.getElem?_toArray, List.getElem?_cons_zero, List.getElem?_cons_succ]; rfl)
            go_simp
            refine hK _ _ ?_
            clear hK K
            (try simp only [Act.put, List.setIfInBounds_toArray, List.set_cons_zero, List.set_cons_succ])
            have HO4 := hd ho4
            have HX4 := hd X4
            have HS4 : Hid ((zs5 ++ zs3).map Prod.snd ++ ((loopS (alwB cs q) n d1 a)) = treeS (alwB cs q) n d a) := hd (by rw [List.map_append, HS3.out, List.append_assoc]; exact HS4.out)
            have hl4 : (zs5 ++ zs3).length ≤ 729 := by
              have e := congrArg List.length HS4.out
              rw [List.length_append, List.length_map] at e
              have := HTL.out
              omega
            obtain ⟨a4, c4, e4⟩ := outZ_some ho4 (by have := HP4.out; rw [List.length_append]; omega)
            subst e4
            clear ho4 X4 hg4 hb4 HR3 HS3 k0 k1 HBO HAO HRO HS ho3 hx3 X3 X2 ho2 hg2 hb2 hr1b ho1b X1b
            have HP4 : Hid (0 < (zs5 ++ zs3).length) := hd (by have := HP4.out; rw [List.length_append]; omega)
            generalize zs5 ++ zs3 = zs6 at *
            go_wp2
            go_roundw
            case rel => exact ⟨m + 1, d1, zs6, a4, c4, by omega, HP4.out, by omega, by omega, by go_num, rfl, HO4.out, HR4, HS4, HX4.out⟩
            case measure => simp [intOf]; omega
          exact ordG_nil
        exact ordG_nil
      · obtain rfl : e = 0 := by omega
        have hlt' : ¬ (m : Int) ≤ (n : Int) := by omega
        go_wp2
        go_ret
        exact ⟨ao, co, zs, rfl, own_rebase HO.out (by omega), HR.out, by rw [← HS.out]; simp [loopS], (Ext.new _ _).trans HX.out⟩
  · have HTS : Hid (treeS (alwB cs q) n d a = []) := hd (by unfold treeS; rw [if_neg hok])
    have hok' : alwB cs q a = false := by cases h : alwB cs q a; rfl; exact absurd h hok
    rw [hok'] at HALW
    clear hok hok' ih
    have hoe := outZ_emp (W := (w.alloc (.cells #[.int .i64 (n : Int), .slice A cs.length c] 28)).alloc (.cells #[] 37)) (lo := w.heap.size) (heap_n1 _ _) (by simp)
    rw [World.size_alloc] at hoe
    have HOE := hd hoe
    clear hoe
    go_enter Tryz.func42, Tryz.ntmps42
    go_wp2_with fail
    refine (HALW.out _ (by repeat (first | exact Ext.refl _ | apply Ext.drew | refine Ext.alloc ?_ _))).mono ?_
    rintro e w1 ⟨rfl, hx1⟩
    have O1 := hd (own_ext HOE.out hx1)
    have X1 := hd ((((Ext.refl w).alloc _).alloc _).trans hx1)
    clear hx1
    go_wp2
    go_ret
    exact ⟨_, _, [], rfl, O1.out, (fun z hz => by cases hz), HTS.out.symm, X1.out⟩
end Go.Proofs.YtbdcomkbpapcaaaGreat
