import Derived.Test.YtbdcomkbpapcaaaGreatMg3
import Derived.Lib.SliceRun
/-
  slices.DeleteFunc and slices.Clone at numbers. Conditions: list lengths up to 2^30.
-/

namespace Go.Proofs.YtbdcomkbpapcaaaGreat
open Go.RowKit

theorem findI_spec (p : Int → Bool) (xs : List Int) : ∀ k0 : Int, 0 ≤ k0 →
    (findI p xs k0 = -1 ∧ ∀ x ∈ xs, p x = false) ∨ (∃ i : Nat, i < xs.length ∧ findI p xs k0 = k0 + i ∧ (∀ x ∈ xs.take i, p x = false) ∧ ∀ y, xs[i]? = some y → p y = true) := by
  induction xs with
  | nil => intro k0 _; exact .inl ⟨rfl, fun x h => by simp at h⟩
  | cons y r ih =>
    intro k0 hk
    unfold findI
    by_cases h : p y = true
    · rw [if_pos h]
      exact .inr ⟨0, by simp, by simp, fun x hx => by simp at hx, fun z hz => by simp at hz; subst hz; exact h⟩
    · rw [if_neg h]
      rcases ih (k0 + 1) (by omega) with ⟨h1, h2⟩ | ⟨i, h1, h2, h3, h4⟩
      · exact .inl ⟨h1, fun x hx => by
          rcases List.mem_cons.1 hx with rfl | hx
          · simpa using h
          · exact h2 x hx⟩
      · exact .inr ⟨i + 1, by simpa using h1, by rw [h2]; omega, fun x hx => by
          rw [List.take_succ_cons] at hx
          rcases List.mem_cons.1 hx with rfl | hx
          · simpa using h
          · exact h3 x hx, fun z hz => h4 z (by simpa using hz)⟩
theorem filter_all {p : Int → Bool} {xs : List Int} (h : ∀ x ∈ xs, p x = false) : xs.filter (fun x => !p x) = xs := by
  rw [List.filter_eq_self]
  intro x hx
  rw [h x hx]; rfl
/-- Cells from k on are overwritten: what lies ahead of k is kept. -/
theorem own_setCells {base : Nat} {e : TypeId} {g n cap k : Nat} : ∀ (vs : List Value) (o : Nat) (w : World) (cs : List Value), k ≤ o → Own w base e 1 (.slice (some ⟨g, 0, none⟩) n cap) n cs →
    ∃ cs', Own (w.setCells g o vs) base e 1 (.slice (some ⟨g, 0, none⟩) n cap) n cs' ∧ cs'.take k = cs.take k ∧ w.grownBy (w.setCells g o vs) (some g)
  | [], o, w, cs, _, h => ⟨cs, h, rfl, grown_refl _ _⟩
  | v :: r, o, w, cs, hk, h => by
    obtain ⟨cs', h1, h2, h3⟩ := own_setCells (k := k) r (o + 1) _ _ (by omega) (World.ownsRow.stored h o v).1
    refine ⟨cs', h1, ?_, grown_trans (World.ownsRow.stored h o v).2 h3⟩
    rw [h2, List.take_set]
    exact List.set_eq_of_length_le (by simp; omega)
/-- A slice of the call's own, cut at its end. -/
theorem own_cut {w : World} {base : Nat} {e : TypeId} {g n cap k : Nat} {cs : List Value} (h : Own w base e 1 (.slice (some ⟨g, 0, none⟩) n cap) n cs) (hk : k ≤ n) : Own w base e 1 (.slice (some ⟨g, 0, none⟩) k cap) k (cs.take k) := by
  have hl := h.1
  rcases h.2 with ⟨hv, _⟩ | ⟨g', cap', cur, hv, hb, hh, hnc, hcm, hcs, ht⟩
  · cases hv
  · injection hv with a b c
    injection a with a
    injection a with a
    subst a; subst c
    refine ⟨by simp; omega, .inr ⟨g, cap, cur, rfl, hb, hh, by omega, hcm, hcs, ?_⟩⟩
    rw [← ht, List.take_take]
    congr 1
    omega
theorem zero_int : ∀ w, (zeroValue 3).run Tryz.prog w = .ok (.int .i64 0) w := fun w => by kernel_rfl
set_option maxHeartbeats 1600000 in
theorem slices_DeleteFunc (xs : List Int) (v : Value) (g : FuncId) (cs : Array Value) (p : Int → Bool) (w : World) (lo B : Nat) (h : OwnI w lo 3 v xs) (hl : xs.length ≤ 1073741824) (hB : B ≤ lo) (hg : Enters g)
    (hp : Hid (∀ x ∈ xs, ∀ (w' : World), Below B w w' → Calls Tryz.prog g (#[.int .i64 x] ++ cs) w' (RetQ w' (.bool (p x))))) :
    Calls Tryz.prog 79 #[v, .func (.func g) #[] cs] w fun e w' => ∃ v', e = .returned v' ∧ OwnI w' lo 3 v' (xs.filter fun x => !p x) ∧ w.grownBy w' v.ownBlock ∧ v'.ownBlock = v.ownBlock := by
  have HI := hd (slices_IndexFunc xs v g cs p w h.rd hl hg (hd fun x hx n => hp.out x hx _ (Below.drewN' (Below.refl B w) n)))
  have HF := hd (findI_spec p xs 0 (Int.le_refl _))
  rcases own_form h with ⟨rfl, hn, _⟩ | ⟨b, cap, rfl, hbl, hbh, hnc, hcm⟩
  · have hx : xs = [] := List.eq_nil_of_length_eq_zero hn
    subst hx
    clear hn
    go_enter Tryz.func79, Tryz.ntmps79
    go_wp2_with fail
    refine (HI.out).mono ?_
    rintro e w1 ⟨rfl, n, rfl⟩
    unfold findI
    go_wp2
    go_ret
    exact ⟨_, rfl, by simpa using OwnI.ext h (ext_drewN _ _), ⟨rfl, rfl, rfl, Nat.le_refl _, fun _ _ _ => rfl⟩, rfl⟩
  · rcases HF.out with ⟨hf, hall⟩ | ⟨i, hi, hf, hpre, hat⟩
    · have HFF := hd hf
      have HA := hd hall
      clear hf hall
      go_enter Tryz.func79, Tryz.ntmps79
      go_wp2_with fail
      refine (HI.out).mono ?_
      rintro e w1 ⟨rfl, n, rfl⟩
      rw [HFF.out]
      go_wp2
      go_ret
      exact ⟨_, rfl, by rw [filter_all HA.out]; exact OwnI.ext h (ext_drewN _ _), ⟨rfl, rfl, rfl, Nat.le_refl _, fun _ _ _ => rfl⟩, rfl⟩
    · have HFF : Hid (findI p xs 0 = (i : Int)) := hd (by rw [hf]; omega)
      have HPRE : Hid ((xs.take (i + 1)).filter (fun x => !p x) = xs.take i) := hd (by
        rw [List.take_succ_eq_append_getElem hi, List.filter_append, filter_all hpre]
        simp [hat _ (List.getElem?_eq_getElem hi)])
      clear hf hpre hat HF
      have hnb : (((i : Nat) : Int) == -1) = false := by simp
      generalize hn : xs.length = N at *
      have HN := hd hn
      clear hn
      go_enter Tryz.func79, Tryz.ntmps79
      go_wp2_with fail
      refine (HI.out).mono ?_
      rintro e w1 ⟨rfl, n, rfl⟩
      rw [HFF.out]
      go_wp2_with fail
      go_loopw [6, 5] (fun jv iv wr => ∃ (j i : Nat) (ds : List Value), i < j ∧ j ≤ N ∧ jv = .int .i64 j ∧ iv = .int .i64 i ∧ Own wr lo 3 1 (.slice (some ⟨b, 0, none⟩) N cap) N ds ∧ Hid (ds.take i = ints ((xs.take j).filter fun x => !p x)) ∧ Hid (ds.drop j = (ints xs).drop j) ∧ w.grownBy wr (some b)) (fun jv _ _ => N - (intOf jv).toNat)
      case atStart =>
        refine ⟨i + 1, i, ints xs, by omega, by omega, rfl, rfl, ?_, hd (by rw [HPRE.out, ints, ints, List.map_take]), hd rfl, ⟨rfl, rfl, rfl, Nat.le_refl _, fun _ _ _ => rfl⟩⟩
        have := OwnI.ext h (ext_drewN w n)
        unfold OwnI at this
        rw [HN.out] at this
        exact this
      case round =>
        clear HI HFF HPRE hnb h
        obtain ⟨j, i, ds, hij, hjN, rfl, rfl, ho, ht, hdr, hgr⟩ := hrel
        have hbw : Below B w wr := ⟨hgr.os, hgr.tape, hgr.output, hgr.size, fun k hk => hgr.block k (by omega) (fun e => by injection e with e; omega)⟩
        have HBW := hd hbw
        have hdl := ho.1
        have HDL := hd hdl
        clear hbw hdl
        by_cases hlt : j < N
        · have hxj : j < xs.length := by rw [HN.out]; exact hlt
          have hdj : ds[j]? = some (.int .i64 xs[j]) := by
            have := congrArg (fun l => l[0]?) hdr.out
            simpa [ints, hxj] using this
          have hcell := World.ownsRow.cellAt ho j (by omega)
          rw [hdj] at hcell
          have HTK : Hid (xs.take (j + 1) = xs.take j ++ [xs[j]]) := hd (List.take_succ_eq_append_getElem hxj)
          have HDR2 : Hid (ds.drop (j + 1) = (ints xs).drop (j + 1)) := hd (by
            have := congrArg (fun l => l.drop 1) hdr.out
            simpa [List.drop_drop] using this)
          have HM := hd (List.getElem_mem hxj)
          generalize xs[j] = y at *
          obtain ⟨q, hq⟩ : ∃ q, p y = q := ⟨_, rfl⟩
          have HQ := hd hq
          have HCL := hd (hp.out y HM.out wr HBW.out)
          unfold Enters at hg
          have HGR := hd hgr
          have HO := hd ho
          clear hq hdj hgr ho
          cases q
          · go_wp2_with fail
            refine HCL.out.mono ?_
            rintro e w2 ⟨rfl, m, hw2⟩
            have HX : Hid (Ext wr w2) := hd (by rw [hw2]; exact ext_drewN _ _)
            have HG2 : Hid (w.grownBy w2 (some b)) := hd (by rw [hw2]; exact ⟨HGR.out.os, HGR.out.tape, HGR.out.output, HGR.out.size, HGR.out.block⟩)
            obtain ⟨⟨u0, hci⟩, hfi, hst⟩ := own_store (own_ext HO.out HX.out) (k := i) (by omega)
            rw [HQ.out]
            clear hw2 hcell
            go_wp2
            go_roundw
            case rel =>
              refine ⟨j + 1, i + 1, ds.set i (.int .i64 y), by omega, by omega, by go_num, by go_num, hst.out _, hd ?_, hd ?_, grown_set HG2.out _ _⟩
              · have hil : i < ds.length := by rw [HDL.out]; omega
                rw [List.take_succ_eq_append_getElem (by simpa using hil), List.take_set, List.set_eq_of_length_le (by simp; omega), ht.out, HTK.out, List.filter_append, List.getElem_set_self]
                simp [ints, HQ.out]
              · rw [List.drop_set, if_pos (by omega)]; exact HDR2.out
            case measure => simp [intOf]; omega
          · go_wp2_with fail
            refine HCL.out.mono ?_
            rintro e w2 ⟨rfl, m, hw2⟩
            have HX : Hid (Ext wr w2) := hd (by rw [hw2]; exact ext_drewN _ _)
            have HG2 : Hid (w.grownBy w2 (some b)) := hd (by rw [hw2]; exact ⟨HGR.out.os, HGR.out.tape, HGR.out.output, HGR.out.size, HGR.out.block⟩)
            rw [HQ.out]
            clear hw2 hcell
            go_wp2
            go_roundw
            case rel =>
              refine ⟨j + 1, i, ds, by omega, by omega, by go_num, rfl, own_ext HO.out HX.out, hd ?_, HDR2, HG2.out⟩
              rw [ht.out, HTK.out, List.filter_append]
              simp [HQ.out]
            case measure => simp [intOf]; omega
        · obtain rfl : j = N := by omega
          have hcl : ∀ ty, (Builtin.clear_ #[37] ty #[.slice (some ⟨b, i, none⟩) (j - i) (cap - i)]).run Tryz.prog wr = .ok (.tuple #[]) (wr.setCells b i (List.replicate (j - i) (.int .i64 0))) := fun ty =>
            Lib.run_clear_slice wr _ _ ty _ Tryz.underlying37 zero_int rfl rfl b i _ _ (by omega) (fun k hk => by obtain ⟨⟨u, hu⟩, _, _⟩ := own_store ho (k := i + k) (by omega); rw [hu]; rfl) (fun k hk => World.ownsRow.frozenAt ho (i + k))
          obtain ⟨ds', ho', ht', hg'⟩ := own_setCells (k := i) (List.replicate (j - i) (.int .i64 0)) i wr ds (Nat.le_refl _) ho
          have HO := hd (own_cut ho' (k := i) (by omega))
          have HG := hd (grown_trans hgr hg')
          have HT := hd ht'
          clear ho ho' ht' hg' hgr
          go_wp2
          go_ret
          refine ⟨_, rfl, ?_, HG.out, rfl⟩
          have := HO.out
          rw [HT.out, ht.out, List.take_of_length_le (by rw [HN.out]; exact Nat.le_refl _)] at this
          have hlen : (xs.filter fun x => !p x).length = i := by have := this.1; simpa using this
          unfold OwnI
          rw [hlen]
          exact this
end Go.Proofs.YtbdcomkbpapcaaaGreat
