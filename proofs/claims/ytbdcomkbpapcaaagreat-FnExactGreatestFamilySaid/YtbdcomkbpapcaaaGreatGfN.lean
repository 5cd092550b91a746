import Derived.Test.YtbdcomkbpapcaaaGreatGfL
import Derived.Test.YtbdcomkbpapcaaaGreatHoS
import Derived.Test.YtbdcomkbpapcaaaGreatHo2
/-
  slices.DeleteFunc at lists of numbers. Condition: list lengths up to 2^20.
-/

namespace Go.Proofs.YtbdcomkbpapcaaaGreat
open Go.RowKit
theorem findL_spec (p : List Int → Bool) : ∀ (xs : List (List Int)) (k0 : Int), 0 ≤ k0 → (findL p xs k0 = -1 ∧ ∀ x ∈ xs, p x = false) ∨ ∃ i, ∃ (hi : i < xs.length), findL p xs k0 = k0 + i ∧ (∀ x ∈ xs.take i, p x = false) ∧ p xs[i] = true
  | [], k0, _ => .inl ⟨rfl, fun x h => by cases h⟩
  | x :: r, k0, h0 => by
    unfold findL
    cases hx : p x
    · rw [if_neg (by decide)]
      rcases findL_spec p r (k0 + 1) (by omega) with ⟨h1, h2⟩ | ⟨i, hi, h1, h2, h3⟩
      · refine .inl ⟨h1, fun y hy => ?_⟩
        rcases List.mem_cons.1 hy with rfl | hy
        · exact hx
        · exact h2 y hy
      · refine .inr ⟨i + 1, by simpa using hi, by rw [h1]; omega, fun y hy => ?_, by simpa using h3⟩
        rw [List.take_succ_cons] at hy
        rcases List.mem_cons.1 hy with rfl | hy
        · exact hx
        · exact h2 y hy
    · exact .inr ⟨0, by simp, by simp, fun y hy => by simp at hy, by simpa using hx⟩
theorem outZ_rdss {w : World} {lo : Nat} {v : Value} {us : List Row} (h : OutZ w lo v us) (hu : ∀ z ∈ us, RdI w z.1 z.2) : RdSS w v (us.map Prod.snd) := by
  have hr := own_rd h
  refine ⟨us.map Prod.fst, by rw [List.length_map]; exact hr, fun i xs hx => ?_⟩
  rw [List.getElem?_map, Option.map_eq_some_iff] at hx
  obtain ⟨z, hz, rfl⟩ := hx
  exact ⟨z.1, by rw [List.getElem?_map, hz]; rfl, hu z (List.mem_of_getElem? hz)⟩
theorem filter_allZ {p : List Int → Bool} {zs : List Row} (h : ∀ z ∈ zs, p z.2 = false) : zs.filter (fun z => !p z.2) = zs := List.filter_eq_self.2 fun z hz => by rw [h z hz]; rfl
theorem zero_ss : ∀ w, (zeroValue 37).run Tryz.prog w = .ok (.slice none 0 0) w := fun w => by kernel_rfl
set_option maxHeartbeats 3200000 in
theorem slices_DeleteFuncZ (zs : List Row) (v : Value) (g : FuncId) (cs : Array Value) (p : List Int → Bool) (w : World) (lo : Nat) (h : OutZ w lo v zs) (hz : Hid (∀ z ∈ zs, RowN w z)) (hl : zs.length ≤ 1048576) (hg : Enters g)
    (hp : Hid (∀ z ∈ zs, ∀ (u : Value) (w' : World), w.grownBy w' v.ownBlock → RdI w' u z.2 → Calls Tryz.prog g (#[u] ++ cs) w' (RetX w' (.bool (p z.2))))) :
    Calls Tryz.prog 37 #[v, .func (.func g) #[] cs] w fun e w' => ∃ v', e = .returned v' ∧ OutZ w' lo v' (zs.filter fun z => !p z.2) ∧ w.grownBy w' v.ownBlock ∧ v'.ownBlock = v.ownBlock := by
  have hrd : RdSS w v (zs.map Prod.snd) := outZ_rdss h fun z hh => (hz.out z hh).rd
  have HI := hd (slices_IndexFuncS (zs.map Prod.snd) v g cs p w hrd (by rw [List.length_map]; omega) hg (hd fun xs hx u w' hx' hu => by obtain ⟨z, hzz, rfl⟩ := List.mem_map.1 hx; exact hp.out z hzz u w' (grown_ext hx' _) hu))
  have HF := hd (findL_spec p (zs.map Prod.snd) 0 (Int.le_refl _))
  have HZG := hd (fun w' z hzz hgg => rowN_grown h (hz.out z hzz) hgg : ∀ (w' : World) (z : Row), z ∈ zs → w.grownBy w' v.ownBlock → RowN w' z)
  clear hrd
  rcases own_form h with ⟨rfl, hn, _⟩ | ⟨b, cap, rfl, hbl, hbh, hnc, hcm⟩
  · have hx : zs = [] := List.eq_nil_of_length_eq_zero hn
    subst hx
    clear hn
    go_enter Tryz.func37, Tryz.ntmps37
    go_wp2_with fail
    refine HI.out.mono ?_
    rintro e w1 ⟨rfl, hx1⟩
    have HX1 := hd hx1
    clear hx1
    have HFN : Hid (findL p (([] : List Row).map Prod.snd) 0 = -1) := hd rfl
    rw [HFN.out]
    go_wp2
    go_ret
    exact ⟨_, rfl, own_ext h HX1.out, grown_ext HX1.out _, rfl⟩
  · rcases HF.out with ⟨hf, hall⟩ | ⟨i, hi, hf, hpre, hat⟩
    · have HFF := hd hf
      have HA : Hid (∀ z ∈ zs, p z.2 = false) := hd fun z hzz => hall _ (List.mem_map_of_mem hzz)
      clear hf hall
      go_enter Tryz.func37, Tryz.ntmps37
      go_wp2_with fail
      refine HI.out.mono ?_
      rintro e w1 ⟨rfl, hx1⟩
      have HX1 := hd hx1
      clear hx1
      rw [HFF.out]
      go_wp2
      go_ret
      exact ⟨_, rfl, by rw [filter_allZ HA.out]; exact own_ext h HX1.out, grown_ext HX1.out _, rfl⟩
    · rw [List.length_map] at hi
      have HFF : Hid (findL p (zs.map Prod.snd) 0 = (i : Int)) := hd (by rw [hf]; omega)
      have HPRE : Hid ((zs.take (i + 1)).filter (fun z => !p z.2) = zs.take i) := hd (by
        rw [List.take_succ_eq_append_getElem hi, List.filter_append, filter_allZ fun z hzz => hpre z.2 (by rw [← List.map_take]; exact List.mem_map_of_mem hzz)]
        have h2 : p zs[i].2 = true := by simpa using hat
        simp [h2])
      clear hf hpre hat HF
      have hnb : (((i : Nat) : Int) == -1) = false := by simp
      have hh : Own w lo 37 1 (.slice (some ⟨b, 0, none⟩) zs.length cap) zs.length (zs.map Prod.fst) := h
      generalize hn : zs.length = N at *
      have HN := hd hn
      clear hn
      go_enter Tryz.func37, Tryz.ntmps37
      go_wp2_with fail
      refine HI.out.mono ?_
      rintro e w1 ⟨rfl, hx1⟩
      have HX1 := hd hx1
      have HH := hd hh
      clear hx1 hh
      rw [HFF.out]
      go_wp2_with fail
      go_loopw [6, 5] (fun jv iv wr => ∃ (j i : Nat) (ds : List Value), i < j ∧ j ≤ N ∧ jv = .int .i64 j ∧ iv = .int .i64 i ∧ Own wr lo 37 1 (.slice (some ⟨b, 0, none⟩) N cap) N ds ∧ Hid (ds.take i = ((zs.take j).filter fun z => !p z.2).map Prod.fst) ∧ Hid (ds.drop j = (zs.map Prod.fst).drop j) ∧ w.grownBy wr (some b)) (fun jv _ _ => N - (intOf jv).toNat)
      case atStart =>
        refine ⟨i + 1, i, zs.map Prod.fst, by omega, by omega, rfl, rfl, own_ext HH.out HX1.out, hd (by rw [HPRE.out, List.map_take]), hd rfl, grown_ext HX1.out _⟩
      case round =>
        clear HI HFF HPRE hnb h HX1 HH
        obtain ⟨j, i, ds, hij, hjN, rfl, rfl, ho, ht, hdr, hgr⟩ := hrel
        have hdl := ho.1
        have HDL := hd hdl
        clear hdl
        by_cases hlt : j < N
        · have hxj : j < zs.length := by rw [HN.out]; exact hlt
          have hdj : ds[j]? = some zs[j].1 := by
            have := congrArg (fun l => l[0]?) hdr.out
            simpa [hxj] using this
          have hcell := World.ownsRow.cellAt ho j (by omega)
          rw [hdj] at hcell
          have HTK : Hid (zs.take (j + 1) = zs.take j ++ [zs[j]]) := hd (List.take_succ_eq_append_getElem hxj)
          have HDR2 : Hid (ds.drop (j + 1) = (zs.map Prod.fst).drop (j + 1)) := hd (by
            have := congrArg (fun l => l.drop 1) hdr.out
            simpa [List.drop_drop] using this)
          have HM := hd (List.getElem_mem hxj)
          generalize zs[j] = y at *
          have HRD := hd (HZG.out wr y HM.out hgr).rd
          obtain ⟨uy, ys⟩ := y
          obtain ⟨A3, c3, e3⟩ := (HZG.out wr _ HM.out hgr).one
          simp only at e3
          subst e3
          obtain ⟨q, hq⟩ : ∃ q, p ys = q := ⟨_, rfl⟩
          have HQ := hd hq
          have HCL := hd (hp.out _ HM.out _ wr hgr HRD.out)
          unfold Enters at hg
          have HGR := hd hgr
          have HO := hd ho
          clear hq hdj hgr ho
          simp only at HCL
          rw [HQ.out] at HCL
          cases q
          · go_wp2_with fail
            refine HCL.out.mono ?_
            rintro e w2 ⟨rfl, hw2⟩
            have HX : Hid (Ext wr w2) := hd hw2
            have HG2 : Hid (w.grownBy w2 (some b)) := hd (grown_trans HGR.out (grown_ext hw2 _))
            obtain ⟨⟨u0, hci⟩, hfi, hst⟩ := own_store (own_ext HO.out HX.out) (k := i) (by omega)
            clear hw2 hcell
            go_wp2
            go_roundw
            case rel =>
              refine ⟨j + 1, i + 1, ds.set i (.slice A3 ys.length c3), by omega, by omega, by go_num, by go_num, hst.out _, hd ?_, hd ?_, grown_set HG2.out _ _⟩
              · have hil : i < ds.length := by rw [HDL.out]; omega
                rw [List.take_succ_eq_append_getElem (by simpa using hil), List.take_set, List.set_eq_of_length_le (by simp; omega), ht.out, HTK.out, List.filter_append, List.getElem_set_self]
                simp [HQ.out]
              · rw [List.drop_set, if_pos (by omega)]; exact HDR2.out
            case measure => simp [intOf]; omega
          · go_wp2_with fail
            refine HCL.out.mono ?_
            rintro e w2 ⟨rfl, hw2⟩
            have HX : Hid (Ext wr w2) := hd hw2
            have HG2 : Hid (w.grownBy w2 (some b)) := hd (grown_trans HGR.out (grown_ext hw2 _))
            clear hw2 hcell
            go_wp2
            go_roundw
            case rel =>
              refine ⟨j + 1, i, ds, by omega, by omega, by go_num, rfl, own_ext HO.out HX.out, hd ?_, HDR2, HG2.out⟩
              rw [ht.out, HTK.out, List.filter_append]
              simp [HQ.out]
            case measure => simp [intOf]; omega
        · obtain rfl : j = N := by omega
          have hcl : ∀ ty, (Builtin.clear_ #[22] ty #[.slice (some ⟨b, i, none⟩) (j - i) (cap - i)]).run Tryz.prog wr = .ok (.tuple #[]) (wr.setCells b i (List.replicate (j - i) (.slice none 0 0))) := fun ty =>
            Lib.run_clear_slice wr _ _ ty _ Tryz.underlying22 zero_ss rfl rfl b i _ _ (by omega) (fun k hk => by obtain ⟨⟨u, hu⟩, _, _⟩ := own_store ho (k := i + k) (by omega); rw [hu]; rfl) (fun k hk => World.ownsRow.frozenAt ho (i + k))
          obtain ⟨ds', ho', ht', hg'⟩ := own_setCells (k := i) (List.replicate (j - i) (.slice none 0 0)) i wr ds (Nat.le_refl _) ho
          have HO := hd (own_cut ho' (k := i) (by omega))
          have HG := hd (grown_trans hgr hg')
          have HT := hd ht'
          clear ho ho' ht' hg' hgr
          go_wp2
          go_ret
          refine ⟨_, rfl, ?_, HG.out, rfl⟩
          have := HO.out
          rw [HT.out, ht.out, List.take_of_length_le (by rw [HN.out]; exact Nat.le_refl _)] at this
          have hlen : (zs.filter fun z => !p z.2).length = i := by have := this.1; simpa using this
          show Own _ _ _ _ _ (zs.filter fun z => !p z.2).length _
          rw [hlen]
          exact this
end Go.Proofs.YtbdcomkbpapcaaaGreat
