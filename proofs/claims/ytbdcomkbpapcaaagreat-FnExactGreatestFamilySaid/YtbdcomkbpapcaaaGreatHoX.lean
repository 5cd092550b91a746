import Derived.Test.YtbdcomkbpapcaaaGreatMg5
import Derived.Test.YtbdcomkbpapcaaaGreatHo2
/-
  Functions of package slices that take a function whose calls may make memory of their own. Conditions: list lengths up to 2^30.
-/

namespace Go.Proofs.YtbdcomkbpapcaaaGreat
open Go.RowKit
/-- The function value of g with captured values cs answers p, in w and whatever extends w. -/
def AnsX (g : FuncId) (cs : Array Value) (p : Int → Bool) (xs : List Int) (w : World) : Prop := ∀ x ∈ xs, ∀ (w' : World), Ext w w' → Calls Tryz.prog g (#[.int .i64 x] ++ cs) w' (RetX w' (.bool (p x)))
set_option maxHeartbeats 800000 in
theorem slices_IndexFuncX (xs : List Int) (v : Value) (g : FuncId) (cs : Array Value) (p : Int → Bool) (w : World) (h : RdI w v xs) (hl : xs.length ≤ 1073741824) (hg : Enters g) (hp : Hid (AnsX g cs p xs w)) :
    Calls Tryz.prog 98 #[v, .func (.func g) #[] cs] w (RetX w (.int .i64 (findI p xs 0))) := by
  obtain ⟨A, c, rfl, h1, h2, ha⟩ := h.form
  clear h
  go_enter Tryz.func98, Tryz.ntmps98
  go_wp2
  go_loopw [8] (fun i wr => ∃ k : Nat, k ≤ xs.length ∧ i = .int .i64 k ∧ Hid (findI p xs 0 = findI p (xs.drop k) k) ∧ Ext w wr) (fun i _ => xs.length - (intOf i).toNat)
  case atStart => exact ⟨0, by omega, rfl, hd rfl, Ext.refl _⟩
  case round =>
    obtain ⟨k, hk, rfl, HR, hx⟩ := hrel
    have HX := hd hx
    clear hx
    by_cases hlt : k < xs.length
    · obtain ⟨a, rfl, hc0⟩ := RdI.at_ ha hlt
      have hc := HX.out.cell hc0
      clear hc0
      rw [drop_cons hlt] at HR
      have hm := hd (List.getElem_mem hlt)
      generalize xs[k] = y at *
      unfold Enters at hg
      obtain ⟨b, hb⟩ : ∃ b, p y = b := ⟨_, rfl⟩
      have HB := hd hb
      clear hb
      go_wp2_with fail
      refine (hp.out y hm.out _ HX.out).mono ?_
      rintro e w1 ⟨rfl, hx1⟩
      have HX1 := hd (HX.out.trans hx1)
      clear hx1 hc
      rw [HB.out]
      cases b
      · go_wp2
        go_roundw
        case rel => exact ⟨k + 1, by omega, by go_num, hd (by rw [HR.out, findI, HB.out]; rfl), HX1.out⟩
        case measure => simp [intOf]; omega
      · go_wp2
        go_ret
        exact RetX.mk (by rw [HR.out, findI, HB.out]; rfl) HX1.out
    · go_wp2
      go_ret
      exact RetX.mk (by rw [HR.out, List.drop_eq_nil_of_le (by omega)]; rfl) HX.out
set_option maxHeartbeats 1600000 in
theorem slices_DeleteFuncX (xs : List Int) (v : Value) (g : FuncId) (cs : Array Value) (p : Int → Bool) (w : World) (lo B : Nat) (h : OwnI w lo 3 v xs) (hl : xs.length ≤ 1073741824) (hB : B ≤ lo) (hBw : B ≤ w.heap.size) (hg : Enters g)
    (hp : Hid (∀ x ∈ xs, ∀ (w' : World), Below B w w' → Calls Tryz.prog g (#[.int .i64 x] ++ cs) w' (RetX w' (.bool (p x))))) :
    Calls Tryz.prog 79 #[v, .func (.func g) #[] cs] w fun e w' => ∃ v', e = .returned v' ∧ OwnI w' lo 3 v' (xs.filter fun x => !p x) ∧ w.grownBy w' v.ownBlock ∧ v'.ownBlock = v.ownBlock := by
  have HI := hd (slices_IndexFuncX xs v g cs p w h.rd hl hg (hd fun x hx w' hx' => hp.out x hx _ (Below.mono hx' hBw)))
  have HF := hd (findI_spec p xs 0 (Int.le_refl _))
  rcases own_form h with ⟨rfl, hn, _⟩ | ⟨b, cap, rfl, hbl, hbh, hnc, hcm⟩
  · have hx : xs = [] := List.eq_nil_of_length_eq_zero hn
    subst hx
    clear hn
    go_enter Tryz.func79, Tryz.ntmps79
    go_wp2_with fail
    refine (HI.out).mono ?_
    rintro e w1 ⟨rfl, hx1⟩
    unfold findI
    go_wp2
    go_ret
    exact ⟨_, rfl, by simpa using OwnI.ext h hx1, grown_ext hx1 _, rfl⟩
  · rcases HF.out with ⟨hf, hall⟩ | ⟨i, hi, hf, hpre, hat⟩
    · have HFF := hd hf
      have HA := hd hall
      clear hf hall
      go_enter Tryz.func79, Tryz.ntmps79
      go_wp2_with fail
      refine (HI.out).mono ?_
      rintro e w1 ⟨rfl, hx1⟩
      rw [HFF.out]
      go_wp2
      go_ret
      exact ⟨_, rfl, by rw [filter_all HA.out]; exact OwnI.ext h hx1, grown_ext hx1 _, rfl⟩
    · have HFF : Hid (findI p xs 0 = (i : Int)) := hd (by rw [hf]; omega)
      have HPRE : Hid ((xs.take (i + 1)).filter (fun x => !p x) = xs.take i) := hd (by
        rw [List.take_succ_eq_append_getElem hi, List.filter_append, filter_all hpre]
        simp [hat _ (List.getElem?_eq_getElem hi)])
      clear hf hpre hat HF
      have hnb : (((i : Nat) : Int) == -1) = false := by simp
      generalize hn : xs.length = N at *
      have HN := hd hn
      clear hn
      go_enter Tryz.func79, Tryz.ntmps79
      go_wp2_with fail
      refine (HI.out).mono ?_
      rintro e w1 ⟨rfl, hx1⟩
      rw [HFF.out]
      go_wp2_with fail
      go_loopw [6, 5] (fun jv iv wr => ∃ (j i : Nat) (ds : List Value), i < j ∧ j ≤ N ∧ jv = .int .i64 j ∧ iv = .int .i64 i ∧ Own wr lo 3 1 (.slice (some ⟨b, 0, none⟩) N cap) N ds ∧ Hid (ds.take i = ints ((xs.take j).filter fun x => !p x)) ∧ Hid (ds.drop j = (ints xs).drop j) ∧ w.grownBy wr (some b)) (fun jv _ _ => N - (intOf jv).toNat)
      case atStart =>
        refine ⟨i + 1, i, ints xs, by omega, by omega, rfl, rfl, ?_, hd (by rw [HPRE.out, ints, ints, List.map_take]), hd rfl, grown_ext hx1 _⟩
        have := OwnI.ext h hx1
        unfold OwnI at this
        rw [HN.out] at this
        exact this
      case round =>
        clear HI HFF HPRE hnb h hx1
        obtain ⟨j, i, ds, hij, hjN, rfl, rfl, ho, ht, hdr, hgr⟩ := hrel
        have hbw : Below B w wr := ⟨hgr.os, hgr.tape, hgr.output, hgr.size, fun k hk => hgr.block k (by omega) (fun e => by injection e with e; omega)⟩
        have HBW := hd hbw
        have hdl := ho.1
        have HDL := hd hdl
        clear hbw hdl
        by_cases hlt : j < N
        · have hxj : j < xs.length := by rw [HN.out]; exact hlt
          have hdj : ds[j]? = some (.int .i64 xs[j]) := by
            have := congrArg (fun l => l[0]?) hdr.out
            simpa [ints, hxj] using this
          have hcell := World.ownsRow.cellAt ho j (by omega)
          rw [hdj] at hcell
          have HTK : Hid (xs.take (j + 1) = xs.take j ++ [xs[j]]) := hd (List.take_succ_eq_append_getElem hxj)
          have HDR2 : Hid (ds.drop (j + 1) = (ints xs).drop (j + 1)) := hd (by
            have := congrArg (fun l => l.drop 1) hdr.out
            simpa [List.drop_drop] using this)
          have HM := hd (List.getElem_mem hxj)
          generalize xs[j] = y at *
          obtain ⟨q, hq⟩ : ∃ q, p y = q := ⟨_, rfl⟩
          have HQ := hd hq
          have HCL := hd (hp.out y HM.out wr HBW.out)
          unfold Enters at hg
          have HGR := hd hgr
          have HO := hd ho
          clear hq hdj hgr ho
          cases q
          · go_wp2_with fail
            refine HCL.out.mono ?_
            rintro e w2 ⟨rfl, hw2⟩
            have HX : Hid (Ext wr w2) := hd hw2
            have HG2 : Hid (w.grownBy w2 (some b)) := hd (grown_trans HGR.out (grown_ext hw2 _))
            obtain ⟨⟨u0, hci⟩, hfi, hst⟩ := own_store (own_ext HO.out HX.out) (k := i) (by omega)
            rw [HQ.out]
            clear hw2 hcell
            go_wp2
            go_roundw
            case rel =>
              refine ⟨j + 1, i + 1, ds.set i (.int .i64 y), by omega, by omega, by go_num, by go_num, hst.out _, hd ?_, hd ?_, grown_set HG2.out _ _⟩
              · have hil : i < ds.length := by rw [HDL.out]; omega
                rw [List.take_succ_eq_append_getElem (by simpa using hil), List.take_set, List.set_eq_of_length_le (by simp; omega), ht.out, HTK.out, List.filter_append, List.getElem_set_self]
                simp [ints, HQ.out]
              · rw [List.drop_set, if_pos (by omega)]; exact HDR2.out
            case measure => simp [intOf]; omega
          · go_wp2_with fail
            refine HCL.out.mono ?_
            rintro e w2 ⟨rfl, hw2⟩
            have HX : Hid (Ext wr w2) := hd hw2
            have HG2 : Hid (w.grownBy w2 (some b)) := hd (grown_trans HGR.out (grown_ext hw2 _))
            rw [HQ.out]
            clear hw2 hcell
            go_wp2
            go_roundw
            case rel =>
              refine ⟨j + 1, i, ds, by omega, by omega, by go_num, rfl, own_ext HO.out HX.out, hd ?_, HDR2, HG2.out⟩
              rw [ht.out, HTK.out, List.filter_append]
              simp [HQ.out]
            case measure => simp [intOf]; omega
        · obtain rfl : j = N := by omega
          have hcl : ∀ ty, (Builtin.clear_ #[37] ty #[.slice (some ⟨b, i, none⟩) (j - i) (cap - i)]).run Tryz.prog wr = .ok (.tuple #[]) (wr.setCells b i (List.replicate (j - i) (.int .i64 0))) := fun ty =>
            Lib.run_clear_slice wr _ _ ty _ Tryz.underlying37 zero_int rfl rfl b i _ _ (by omega) (fun k hk => by obtain ⟨⟨u, hu⟩, _, _⟩ := own_store ho (k := i + k) (by omega); rw [hu]; rfl) (fun k hk => World.ownsRow.frozenAt ho (i + k))
          obtain ⟨ds', ho', ht', hg'⟩ := own_setCells (k := i) (List.replicate (j - i) (.int .i64 0)) i wr ds (Nat.le_refl _) ho
          have HO := hd (own_cut ho' (k := i) (by omega))
          have HG := hd (grown_trans hgr hg')
          have HT := hd ht'
          clear ho ho' ht' hg' hgr
          go_wp2
          go_ret
          refine ⟨_, rfl, ?_, HG.out, rfl⟩
          have := HO.out
          rw [HT.out, ht.out, List.take_of_length_le (by rw [HN.out]; exact Nat.le_refl _)] at this
          have hlen : (xs.filter fun x => !p x).length = i := by have := this.1; simpa using this
          unfold OwnI
          rw [hlen]
          exact this
end Go.Proofs.YtbdcomkbpapcaaaGreat
