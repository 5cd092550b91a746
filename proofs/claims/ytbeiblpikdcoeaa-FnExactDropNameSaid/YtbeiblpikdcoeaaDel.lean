/-
  slices.Clone and slices.DeleteFunc at records. Conditions: list lengths up to 2^20.
-/
import Derived.Test.YtbeiblpikdcoeaaRecOf
import Derived.Test.YtbeiblpikdcoeaaRecA
import Derived.Test.YtbeiblpikdcoeaaHoX
namespace Go.Proofs.Ytbeiblpikdcoeaa
open Go.RowKit
theorem findR_spec (p : Rec → Bool) (xs : List Rec) : ∀ k0 : Int, 0 ≤ k0 →
    (findR p xs k0 = -1 ∧ ∀ x ∈ xs, p x = false) ∨ (∃ i : Nat, i < xs.length ∧ findR p xs k0 = k0 + i ∧ (∀ x ∈ xs.take i, p x = false) ∧ ∀ y, xs[i]? = some y → p y = true) := by
  induction xs with
  | nil => intro k0 _; exact .inl ⟨rfl, fun x h => by simp at h⟩
  | cons y r ih =>
    intro k0 hk
    unfold findR
    by_cases h : p y = true
    · rw [if_pos h]
      exact .inr ⟨0, by simp, by simp, fun x hx => by simp at hx, fun z hz => by simp at hz; subst hz; exact h⟩
    · rw [if_neg h]
      rcases ih (k0 + 1) (by omega) with ⟨h1, h2⟩ | ⟨i, h1, h2, h3, h4⟩
      · exact .inl ⟨h1, fun x hx => by
          rcases List.mem_cons.1 hx with rfl | hx
          · simpa using h
          · exact h2 x hx⟩
      · exact .inr ⟨i + 1, by simpa using h1, by rw [h2]; omega, fun x hx => by
          rw [List.take_succ_cons] at hx
          rcases List.mem_cons.1 hx with rfl | hx
          · simpa using h
          · exact h3 x hx, fun z hz => h4 z (by simpa using hz)⟩
theorem filter_allR {p : Rec → Bool} {xs : List Rec} (h : ∀ x ∈ xs, p x = false) : xs.filter (fun x => !p x) = xs := by
  rw [List.filter_eq_self]
  intro x hx
  rw [h x hx]; rfl
theorem own_setCellsN {base : Nat} {e : TypeId} {s g n cap k : Nat} : ∀ (vs : List Value) (o : Nat) (w : World) (cs : List Value), k ≤ o → Own w base e s (.slice (some ⟨g, 0, none⟩) n cap) n cs →
    ∃ cs', Own (w.setCells g o vs) base e s (.slice (some ⟨g, 0, none⟩) n cap) n cs' ∧ cs'.take k = cs.take k ∧ w.grownBy (w.setCells g o vs) (some g)
  | [], o, w, cs, _, h => ⟨cs, h, rfl, grown_refl _ _⟩
  | v :: r, o, w, cs, hk, h => by
    obtain ⟨cs', h1, h2, h3⟩ := own_setCellsN (k := k) r (o + 1) _ _ (by omega) (World.ownsRow.stored h o v).1
    refine ⟨cs', h1, ?_, grown_trans (World.ownsRow.stored h o v).2 h3⟩
    rw [h2, List.take_set]
    exact List.set_eq_of_length_le (by simp; omega)
theorem own_cutN {w : World} {base : Nat} {e : TypeId} {s g n cap k : Nat} {cs : List Value} (h : Own w base e s (.slice (some ⟨g, 0, none⟩) n cap) n cs) (hk : k ≤ n) : Own w base e s (.slice (some ⟨g, 0, none⟩) k cap) k (cs.take (k * s)) := by
  have hl := h.1
  have hks : k * s ≤ n * s := Nat.mul_le_mul_right s hk
  rcases h.2 with ⟨hv, _⟩ | ⟨g', cap', cur, hv, hb, hh, hnc, hcm, hcs, ht⟩
  · cases hv
  · injection hv with a b c
    injection a with a
    injection a with a
    subst a; subst c
    refine ⟨by simp; omega, .inr ⟨g, cap, cur, rfl, hb, hh, by omega, hcm, hcs, ?_⟩⟩
    rw [← ht, List.take_take]
    congr 1
    omega
theorem set4_take {ds : List Value} {a : Nat} {x0 x1 x2 x3 : Value} (h : a + 4 ≤ ds.length) : ((((ds.set a x0).set (a + 1) x1).set (a + 2) x2).set (a + 3) x3).take (a + 4) = ds.take a ++ [x0, x1, x2, x3] := by
  rw [List.take_set, List.take_set, List.take_set, List.take_set]
  have e : ds.take (a + 4) = ds.take a ++ [ds[a], ds[a + 1], ds[a + 2], ds[a + 3]] := by
    rw [show a + 4 = a + 1 + 1 + 1 + 1 from rfl, List.take_succ_eq_append_getElem (show a + 1 + 1 + 1 < ds.length by omega), List.take_succ_eq_append_getElem (show a + 1 + 1 < ds.length by omega), List.take_succ_eq_append_getElem (show a + 1 < ds.length by omega), List.take_succ_eq_append_getElem (show a < ds.length by omega)]
    simp only [List.append_assoc, List.cons_append, List.nil_append]
  have hl : (ds.take a).length = a := by simp; omega
  rw [e, List.set_append_right _ _ (by omega), List.set_append_right _ _ (by omega), List.set_append_right _ _ (by omega), List.set_append_right _ _ (by omega), hl]
  simp
theorem set4_drop {ds : List Value} {a b : Nat} {x0 x1 x2 x3 : Value} (h : a + 4 ≤ b) : ((((ds.set a x0).set (a + 1) x1).set (a + 2) x2).set (a + 3) x3).drop b = ds.drop b := by
  rw [List.drop_set, if_pos (by omega), List.drop_set, if_pos (by omega), List.drop_set, if_pos (by omega), List.drop_set, if_pos (by omega)]
theorem recCells_take (rs : List Rec) : ∀ k, recCells (rs.take k) = (recCells rs).take (k * 4) := by
  induction rs with
  | nil => intro k; simp [recCells]
  | cons r rs ih =>
    intro k
    cases k with
    | zero => simp [recCells]
    | succ k => rw [List.take_succ_cons, recCells, ih k, recCells, show (k + 1) * 4 = k * 4 + 1 + 1 + 1 + 1 from by omega, List.take_succ_cons, List.take_succ_cons, List.take_succ_cons, List.take_succ_cons]
set_option maxHeartbeats 800000 in
theorem slices_CloneR (rs : List Rec) (v : Value) (w : World) (h : RdRec w v rs) (hl : rs.length ≤ 1048576) :
    Calls Try.prog 85 #[v] w (fun e w' => ∃ u, e = .returned u ∧ Own w' w.heap.size 106 4 u rs.length (recCells rs) ∧ Ext w w') := by
  have q22 : ∀ (w : World) (a : Option Addr) (n c n' c' : Nat), (binOp .eql 56 (.slice a n c) (.slice none n' c')).run Try.prog w = .ok (.bool a.isNone) w := fun w a n c n' c' => Lib.run_eql_slice_nil w _ _ a n c n' c' Try.underlying56
  have hR := h
  obtain ⟨A, c, rfl, h1, h2, ha⟩ := h.form
  clear h
  cases A with
  | none =>
    have hx : rs = [] := by
      cases rs with
      | nil => rfl
      | cons x r => obtain ⟨a, h, _⟩ := RdRec.at_ ha (k := 0) (by simp); cases h
    subst hx
    clear hR
    go_enter Try.func85, Try.ntmps85
    go_wp2
    go_ret
    exact ⟨_, rfl, own_nil _ _ _ _, Ext.refl _⟩
  | some a =>
    have HE : Hid (Own (w.alloc (.cells #[] 106)) w.heap.size 106 4 (.slice (some ⟨w.heap.size, 0, none⟩) 0 0) 0 []) := hd (own_lit w _ 106 4 #[] 0 (Nat.le_refl _) (Nat.zero_le _) rfl)
    have HR := hd (hR.ext (Ext.new w (.cells #[] 106)))
    have HO := hd (recCells_one rs)
    clear hR
    go_enter Try.func85, Try.ntmps85
    go_wp2_with (at_builtin; refine wpList_plain rfl fun K hK => wp_app _ _ _ 56 rfl w.heap.size 106 Try.underlying56 info_record (by decide) rfl (by decide) HE.out HR.out HO.out (by rfl) (by rfl) (by omega) (by simp) fun v' w1 ho1 hg1 _ => hK _ _ ?_)
    go_ret
    exact ⟨_, rfl, by simpa using ho1, ext_appS (Ext.new _ _) hg1 (fun g hg => by cases hg; exact Nat.le_refl _)⟩
theorem zero_rec : ∀ w, (zeroValue 106).run Try.prog w = .ok (.agg #[.string .empty, .int .i64 0, .int .i64 0, .int .i64 0]) w := fun w => by kernel_rfl
def zRec : Value := .agg #[.string .empty, .int .i64 0, .int .i64 0, .int .i64 0]
theorem zeroCells_len (n : Nat) : (Builtin.zeroCells zRec.cells n).toList.length = n * 4 := by
  simp [Builtin.zeroCells, zRec, Value.cells]
theorem zeroCells_one (n : Nat) : ∀ v ∈ (Builtin.zeroCells zRec.cells n).toList, v.oneCell' = true := by
  intro v hv
  simp only [Builtin.zeroCells, Array.toList_map, List.mem_map] at hv
  obtain ⟨i, _, rfl⟩ := hv
  have h4 : i % zRec.cells.size < 4 := Nat.mod_lt _ (by decide)
  generalize i % zRec.cells.size = m at *
  match m, h4 with
  | 0, _ => rfl
  | 1, _ => rfl
  | 2, _ => rfl
  | 3, _ => rfl
theorem run_clear_rec (w : World) (ty : TypeId) (b o n c : Nat) (hn : 0 < n) (hc : ∀ j, j < n * 4 → (w.cell? ⟨b, o + j, none⟩).isSome = true) (hf : ∀ j, j < n * 4 → w.frozen? ⟨b, o + j, none⟩ = false) :
    (Builtin.clear_ #[56] ty #[.slice (some ⟨b, o, none⟩) n c]).run Try.prog w = .ok (.tuple #[]) (w.setCells b o (Builtin.zeroCells zRec.cells n).toList) := by
  have hst := run_storeCells_cells (P := Try.prog) b o (Builtin.zeroCells zRec.cells n).toList 0 w (by rw [zeroCells_len]; simpa using hc) (by rw [zeroCells_len]; simpa using hf) (zeroCells_one n)
  simp only [Nat.add_zero] at hst
  obtain ⟨m, rfl⟩ : ∃ m, n = m + 1 := ⟨n - 1, by omega⟩
  have hz := zero_rec
  simp only [zRec] at hst ⊢
  simp [Builtin.clear_, run_underlying Try.underlying56, hz, hst]
set_option maxRecDepth 100000 in
set_option maxHeartbeats 3200000 in
theorem slices_DeleteFuncR (xs : List Rec) (v : Value) (g : FuncId) (cs : Array Value) (p : Rec → Bool) (w : World) (lo B : Nat) (h : Own w lo 106 4 v xs.length (recCells xs)) (hl : xs.length ≤ 1048576) (hB : B ≤ lo) (hBw : B ≤ w.heap.size) (hg : Enters g)
    (hp : Hid (∀ x ∈ xs, ∀ (w' : World), Below B w w' → Calls Try.prog g (#[aggR x] ++ cs) w' (RetX w' (.bool (p x))))) :
    Calls Try.prog 84 #[v, .func (.func g) #[] cs] w fun e w' => ∃ v', e = .returned v' ∧ Own w' lo 106 4 v' (xs.filter fun x => !p x).length (recCells (xs.filter fun x => !p x)) ∧ w.grownBy w' v.ownBlock ∧ v'.ownBlock = v.ownBlock := by
  have HI := hd (slices_IndexFuncR xs v g cs p w (own_rd h) hl hg (hd fun x hx w' hx' => hp.out x hx _ (Below.mono hx' hBw)))
  have HF := hd (findR_spec p xs 0 (Int.le_refl _))
  rcases own_form h with ⟨rfl, hn, _⟩ | ⟨b, cap, rfl, hbl, hbh, hnc, hcm⟩
  · have hx : xs = [] := List.eq_nil_of_length_eq_zero hn
    subst hx
    clear hn
    go_enter Try.func84, Try.ntmps84
    go_wp2_with fail
    refine (HI.out).mono ?_
    rintro e w1 ⟨rfl, hx1⟩
    unfold findR
    go_wp2
    go_ret
    exact ⟨_, rfl, by simpa using own_ext h hx1, grown_ext hx1 _, rfl⟩
  · rcases HF.out with ⟨hf, hall⟩ | ⟨i, hi, hf, hpre, hat⟩
    · have HFF := hd hf
      have HA := hd hall
      clear hf hall
      go_enter Try.func84, Try.ntmps84
      go_wp2_with fail
      refine (HI.out).mono ?_
      rintro e w1 ⟨rfl, hx1⟩
      rw [HFF.out]
      go_wp2
      go_ret
      exact ⟨_, rfl, by rw [filter_allR HA.out]; exact own_ext h hx1, grown_ext hx1 _, rfl⟩
    · have HFF : Hid (findR p xs 0 = (i : Int)) := hd (by rw [hf]; omega)
      have HPRE : Hid ((xs.take (i + 1)).filter (fun x => !p x) = xs.take i) := hd (by
        rw [List.take_succ_eq_append_getElem hi, List.filter_append, filter_allR hpre]
        simp [hat _ (List.getElem?_eq_getElem hi)])
      clear hf hpre hat HF
      have hnb : (((i : Nat) : Int) == -1) = false := by simp
      generalize hn : xs.length = N at *
      have HN := hd hn
      clear hn
      go_enter Try.func84, Try.ntmps84
      go_wp2_with fail
      refine (HI.out).mono ?_
      rintro e w1 ⟨rfl, hx1⟩
      rw [HFF.out]
      go_wp2_with fail
      go_loopw [6, 5, 7] (fun jv iv _ wr => ∃ (j i : Nat) (ds : List Value), i < j ∧ j ≤ N ∧ jv = .int .i64 j ∧ iv = .int .i64 i ∧ Own wr lo 106 4 (.slice (some ⟨b, 0, none⟩) N cap) N ds ∧ Hid (ds.take (i * 4) = recCells ((xs.take j).filter fun x => !p x)) ∧ Hid (ds.drop (j * 4) = (recCells xs).drop (j * 4)) ∧ w.grownBy wr (some b)) (fun jv _ _ _ => N - (intOf jv).toNat)
      case atStart => exact ⟨i + 1, i, recCells xs, by omega, by omega, rfl, rfl, own_ext h hx1, hd (by rw [HPRE.out, recCells_take]), hd rfl, grown_ext hx1 _⟩
      case round =>
        clear HI HFF HPRE hnb h hx1
        obtain ⟨j, i, ds, hij, hjN, rfl, rfl, ho, ht, hdr, hgr⟩ := hrel
        have hbw : Below B w wr := ⟨hgr.os, hgr.tape, hgr.output, hgr.size, fun k hk => hgr.block k (by omega) (fun e => by injection e with e; omega)⟩
        have HBW := hd hbw
        have hdl := ho.1
        have HDL := hd hdl
        clear hbw hdl
        by_cases hlt : j < N
        · have hxj : j < xs.length := by rw [HN.out]; exact hlt
          have hgj := recCells_get xs hxj
          have hdj : ∀ m, m < 4 → ds[j * 4 + m]? = (recCells xs)[j * 4 + m]? := fun m _ => by
            have := congrArg (fun l => l[m]?) hdr.out
            simpa using this
          have c0 := World.ownsRow.cellAt ho (j * 4) (by omega)
          have c1 := World.ownsRow.cellAt ho (j * 4 + 1) (by omega)
          have c2 := World.ownsRow.cellAt ho (j * 4 + 2) (by omega)
          have c3 := World.ownsRow.cellAt ho (j * 4 + 3) (by omega)
          rw [show ds[j * 4]? = _ from (hdj 0 (by omega)).trans hgj.1] at c0
          rw [(hdj 1 (by omega)).trans hgj.2.1] at c1
          rw [(hdj 2 (by omega)).trans hgj.2.2.1] at c2
          rw [(hdj 3 (by omega)).trans hgj.2.2.2] at c3
          have HTK : Hid (xs.take (j + 1) = xs.take j ++ [xs[j]]) := hd (List.take_succ_eq_append_getElem hxj)
          have HDR2 : Hid (ds.drop ((j + 1) * 4) = (recCells xs).drop ((j + 1) * 4)) := hd (by
            have := congrArg (fun l => l.drop 4) hdr.out
            rw [List.drop_drop, List.drop_drop, show j * 4 + 4 = (j + 1) * 4 from by omega] at this
            exact this)
          have HM := hd (List.getElem_mem hxj)
          clear hgj hdj
          generalize xs[j] = y at *
          obtain ⟨q, hq⟩ : ∃ q, p y = q := ⟨_, rfl⟩
          have HQ := hd hq
          have HBX : Hid (Below B w (wr.alloc (.cells #[.string y.name, .int .i64 y.sys, .int .i64 y.size, .int .i64 y.extra] 106))) := hd (HBW.out.alloc (Nat.le_trans hBw hgr.size) _)
          have HCL := hd (hp.out y HM.out _ HBX.out)
          have HNB := hd (blk_new (w := wr) (.cells #[.string y.name, .int .i64 y.sys, .int .i64 y.size, .int .i64 y.extra] 106) rfl)
          unfold Enters at hg
          have HGR := hd hgr
          have HO := hd ho
          clear hq hgr ho
          cases q
          · go_wp2_with fail
            refine HCL.out.mono ?_
            rintro e w2 ⟨rfl, hw2⟩
            have HX : Hid (Ext wr w2) := hd ((Ext.new _ _).trans hw2)
            have HG2 : Hid (w.grownBy w2 (some b)) := hd (grown_trans HGR.out (grown_ext HX.out _))
            have HNB2 := hd (hw2.heap HNB.out)
            obtain ⟨n0, n1, n2, n3⟩ := blk4 HNB2.out
            have O2 := hd (own_ext HO.out HX.out)
            obtain ⟨⟨u0, s0⟩, f0, st0⟩ := own_storeN O2.out (j := i * 4) (by omega)
            obtain ⟨⟨u1, s1⟩, f1, -⟩ := own_storeN O2.out (j := i * 4 + 1) (by omega)
            obtain ⟨⟨u2, s2⟩, f2, -⟩ := own_storeN O2.out (j := i * 4 + 2) (by omega)
            obtain ⟨⟨u3, s3⟩, f3, -⟩ := own_storeN O2.out (j := i * 4 + 3) (by omega)
            have HST : Hid (∀ u, Own ((((w2.setCell ⟨b, i * 4, none⟩ (.string y.name)).setCell ⟨b, i * 4 + 1, none⟩ (.int .i64 y.sys)).setCell ⟨b, i * 4 + 2, none⟩ (.int .i64 y.size)).setCell ⟨b, i * 4 + 3, none⟩ u) _ _ 4 _ _ _) := hd fun u => (World.ownsRow.stored (World.ownsRow.stored (World.ownsRow.stored (st0.out (.string y.name)) (i * 4 + 1) (.int .i64 y.sys)).1 (i * 4 + 2) (.int .i64 y.size)).1 (i * 4 + 3) u).1
            rw [HQ.out]
            clear hw2 c0 c1 c2 c3 st0
            go_wp2
            go_roundw
            case rel =>
              refine ⟨j + 1, i + 1, _, by omega, by omega, by go_num, by go_num, HST.out _, hd ?_, hd ?_, grown_set (grown_set (grown_set (grown_set HG2.out _ _) _ _) _ _) _ _⟩
              · rw [show (i + 1) * 4 = i * 4 + 4 from by omega, set4_take (by rw [HDL.out]; omega), ht.out, HTK.out, List.filter_append, recCells_append]
                simp [recCells, HQ.out]
              · rw [set4_drop (by omega)]; exact HDR2.out
            case measure => simp [intOf]; omega
          · go_wp2_with fail
            refine HCL.out.mono ?_
            rintro e w2 ⟨rfl, hw2⟩
            have HX : Hid (Ext wr w2) := hd ((Ext.new _ _).trans hw2)
            have HG2 : Hid (w.grownBy w2 (some b)) := hd (grown_trans HGR.out (grown_ext HX.out _))
            rw [HQ.out]
            clear hw2 c0 c1 c2 c3
            go_wp2
            go_roundw
            case rel =>
              refine ⟨j + 1, i, ds, by omega, by omega, by go_num, rfl, own_ext HO.out HX.out, hd ?_, HDR2, HG2.out⟩
              rw [ht.out, HTK.out, List.filter_append]
              simp [HQ.out]
            case measure => simp [intOf]; omega
        · obtain rfl : j = N := by omega
          have hcl : ∀ ty, (Builtin.clear_ #[56] ty #[.slice (some ⟨b, i * 4, none⟩) (j - i) (cap - i)]).run Try.prog wr = .ok (.tuple #[]) (wr.setCells b (i * 4) (Builtin.zeroCells zRec.cells (j - i)).toList) := fun ty =>
            run_clear_rec wr ty b (i * 4) (j - i) _ (by omega) (fun k hk => by obtain ⟨⟨u, hu⟩, _, _⟩ := own_storeN ho (j := i * 4 + k) (by omega); rw [hu]; rfl) (fun k hk => World.ownsRow.frozenAt ho (i * 4 + k))
          obtain ⟨ds', ho', ht', hg'⟩ := own_setCellsN (k := i * 4) (Builtin.zeroCells zRec.cells (j - i)).toList (i * 4) wr ds (Nat.le_refl _) ho
          have HO := hd (own_cutN ho' (k := i) (by omega))
          have HG := hd (grown_trans hgr hg')
          have HT := hd ht'
          clear ho ho' ht' hg' hgr
          generalize (Builtin.zeroCells zRec.cells (j - i)).toList = ZZ at *
          go_wp2
          go_ret
          refine ⟨_, rfl, ?_, HG.out, rfl⟩
          have := HO.out
          rw [HT.out, ht.out, List.take_of_length_le (by rw [HN.out]; exact Nat.le_refl _)] at this
          have hlen : (xs.filter fun x => !p x).length = i := by have := this.1; simp at this; omega
          rw [hlen]
          exact this
end Go.Proofs.Ytbeiblpikdcoeaa
