/-
  CircuitOfFormula, the program's side. Condition: none.
-/
import Derived.Test.YtmfgcpeddfbngaaCofS
import Derived.Test.YtmfgcpeddfbngaaPtrC
import Derived.Maps.OwnSet
import Derived.Maps.OwnOps
import Derived.Maps.Views
import Derived.Carry
import Derived.StringKeys
import Derived.StillTailTactics
namespace Go.Proofs.Ytmfgcpeddfbngaa
open Go.RowKit Go.Sort Go.Maps
/-- The map of the places. -/
def dM (acc : List (Bs × Int)) : DataW Unit := acc.foldl (fun m p => m.put (.string p.1) (.lit (.int .i64 p.2))) (.map [])
theorem dM_snoc (acc : List (Bs × Int)) (p : Bs × Int) : dM (acc ++ [p]) = (dM acc).put (.string p.1) (.lit (.int .i64 p.2)) := by simp [dM, List.foldl_append]
theorem dM_map (acc : List (Bs × Int)) : IsMap (dM acc) := by
  have key : ∀ (acc : List (Bs × Int)) (m : DataW Unit), IsMap m → IsMap (acc.foldl (fun m p => m.put (.string p.1) (.lit (.int .i64 p.2))) m) := by
    intro acc
    induction acc with
    | nil => intro m h; exact h
    | cons p q ih => intro m h; exact ih _ (h.put _ _)
  exact key acc _ isMap_empty
theorem dM_at (t : Bs) : ∀ (n : Nat) (acc : List (Bs × Int)), acc.length = n → (dM acc).atKey (.string t) (.lit (.int .i64 0)) = .lit (.int .i64 (lkB acc t))
  | 0, acc, h => by
    obtain rfl := List.eq_nil_of_length_eq_zero h
    exact atKey_of_not_has rfl _
  | n + 1, acc, h => by
    rcases List.eq_nil_or_concat acc with rfl | ⟨L, p, rfl⟩
    · simp at h
    · rw [List.concat_eq_append] at h ⊢
      rw [dM_snoc, lkB_snoc]
      by_cases e : p.1 = t
      · rw [if_pos (by rw [e]; exact beq_self_eq_true _), e]
        exact atKey_put_same (k := .string t) (dM_map L) trivial _ _
      · rw [if_neg (by simpa using e), atKey_put_other (fun h2 => e (by injection h2 with h2; exact h2.symm))]
        exact dM_at t n L (by simpa using h)
abbrev OwnM (w : World) (b n : Nat) (acc : List (Bs × Int)) : Prop := w.ownsMap Try.prog 9 (plainElem (H := Unit) Try.prog 3) b n (dM acc)
theorem zero_int (w : World) : (zeroValue 3).run Try.prog w = .ok (.int .i64 0) w := by kernel_rfl
theorem lk_run {w : World} {b n : Nat} {acc : List (Bs × Int)} (h : OwnM w b n acc) (s : ByteArray) (hs : s.size ≤ 1048576) :
    (Instr.lookup 60 (.map (some b)) (.string s) false).run Try.prog w = .ok (.int .i64 (lkB acc s.data.toList)) w := by
  obtain ⟨c, hr, hc, _⟩ := World.ownsMap.lookup_int h (string_keyed Try.underlying9) Try.underlying60 Try.underlying3 (zero_int w) (Go.WideMaps.keyOf_string_mk Try.underlying9 (s := s) (by unfold maxLen; omega))
  have hc := (dM_at _ _ acc rfl).symm.trans hc
  have hc2 : lkB acc s.data.toList = c := by simpa using hc
  rw [hc2]; exact hr
theorem ext_set {a w : World} (h : Ext a w) {g : Nat} (i : Nat) (u : Value) (hb : a.heap.size ≤ g) : Ext a (w.setCell ⟨g, i, none⟩ u) :=
  ext_appS (v := .slice (some ⟨g, 0, none⟩) 0 0) h (grown_set (grown_refl _ _) i u) (fun _ e => by cases e; exact hb)
theorem ext3 (wr : World) (o : Obj) (x y z : Value) : Ext wr ((((wr.alloc o).setCell ⟨wr.heap.size, 0, none⟩ x).setCell ⟨wr.heap.size, 1, none⟩ y).setCell ⟨wr.heap.size, 2, none⟩ z) :=
  ext_set (ext_set (ext_set (Ext.new wr o) _ _ (Nat.le_refl _)) _ _ (Nat.le_refl _)) _ _ (Nat.le_refl _)
theorem ext3d (wr : World) (o : Obj) (x y z : Value) : Ext wr (((((wr.alloc o).drew).setCell ⟨wr.heap.size, 0, none⟩ x).setCell ⟨wr.heap.size, 1, none⟩ y).setCell ⟨wr.heap.size, 2, none⟩ z) :=
  ext_set (ext_set (ext_set (Ext.new wr o).drew _ _ (Nat.le_refl _)) _ _ (Nat.le_refl _)) _ _ (Nat.le_refl _)
theorem blk3G {w : World} {b : Nat} {x y z : Value} {e : TypeId} (h : w.heap[b]? = some (.cells #[x, y, z] e)) : (w.cell? ⟨b, 0, none⟩ = some x ∧ w.cell? ⟨b, 1, none⟩ = some y ∧ w.cell? ⟨b, 2, none⟩ = some z) ∧ w.frozen? ⟨b, 0, none⟩ = false ∧ w.frozen? ⟨b, 1, none⟩ = false ∧ w.frozen? ⟨b, 2, none⟩ = false := by
  simp [World.cell?, World.frozen?, h]
theorem gt_grown (w : World) (b : Nat) (x y z : Value) : w.grownBy (((w.setCell ⟨b, 0, none⟩ x).setCell ⟨b, 1, none⟩ y).setCell ⟨b, 2, none⟩ z) (some b) := grown_set (grown_set (grown_set (grown_refl _ _) _ _) _ _) _ _
theorem gt_own {w : World} {lo b : Nat} {u x y z : Value} {gs : List Gat} (h : OwnG w lo u gs) (hb : ∀ g, u.ownBlock = some g → g ≠ b) : OwnG (((w.setCell ⟨b, 0, none⟩ x).setCell ⟨b, 1, none⟩ y).setCell ⟨b, 2, none⟩ z) lo u gs :=
  World.ownsRow.kept h (gt_grown w b x y z) (.inr fun e => hb _ e rfl)
theorem gt_ext {a w : World} {b : Nat} {x y z : Value} (h : Ext a w) (hb : a.heap.size ≤ b) : Ext a (((w.setCell ⟨b, 0, none⟩ x).setCell ⟨b, 1, none⟩ y).setCell ⟨b, 2, none⟩ z) := ext_set (ext_set (ext_set h _ _ hb) _ _ hb) _ _ hb
/-- Behind the box and the append and the store into the map. -/
theorem cof_end {w2 wr ws w5 w6 : World} {bm lo : Nat} {o u : Value} {gs gs' : List Gat} (hb : bm < lo) (h2 : w2.heap.size = lo) (hg : w2.grownBy wr (some bm)) (hx : Ext wr ws) (ho : OwnG wr lo o gs)
    (hg5 : ws.grownBy w5 o.ownBlock) (hu : OwnG w5 lo u gs') (hg6 : w5.grownBy w6 (some bm)) : OwnG w6 lo u gs' ∧ w2.grownBy w6 (some bm) := by
  subst h2
  refine ⟨World.ownsRow.kept hu hg6 (.inr fun e => ?_), ?_⟩
  · have := (own_blocks hu _ e).1; omega
  · have h5 : w2.grownBy w5 (some bm) := gb_step (grown_trans hg (grown_ext hx _)) hg5 fun g e => .inr (own_blocks ho _ e).1
    exact grown_trans h5 hg6
set_option maxRecDepth 100000 in
set_option maxHeartbeats 25600000 in
theorem i_CircuitOfFormula (s : ByteArray) (w : World) (_ : s.size ≤ 1048576) : Calls Try.prog 14 #[.string s] w (RetG2 w (circV s) (isF s)) := by
  cases hg : goodF s with
  | none =>
    have HG := hd hg
    have HF : Hid (isF s = false) := hd (by unfold isF; rw [hg]; rfl)
    have HV : Hid (circV s = []) := hd (by unfold circV; rw [hg])
    clear hg
    go_enter Try.func14, Try.ntmps14
    go_wp2_with fail
    refine (rp_no (i_parse s _) HG).mono ?_
    rintro e w1 ⟨rfl, hx⟩
    go_wp2
    go_ret2
    exact ⟨_, by rw [HF.out]; rfl, by rw [HV.out]; exact ⟨own_nil _ _ _ _, fun b e => by cases e⟩, hx⟩
  | some f =>
    have HG := hd hg
    have HF : Hid (isF s = true) := hd (by unfold isF; rw [hg]; rfl)
    have HV : Hid (circV s = circF f) := hd (by unfold circV; rw [hg])
    obtain ⟨h1, h2, h3⟩ := goodF_iff.1 hg
    have hl : (txt f).length ≤ 80 := by rw [← h2]; simpa using h1
    have hpl := partsB_len f
    have hcl := circF_len hl
    have HSW := hd (subs_wf f h3)
    have HST := hd (fun g hg => subs_txt f g hg)
    have hmm := @run_makeMap Try.prog
    clear hg h1 h2 h3
    go_enter Try.func14, Try.ntmps14
    go_wp2_with fail
    refine (rp_yes (i_parse s _) HG).mono ?_
    rintro e w1 ⟨v, rfl, hv, hx⟩
    have HX1 := hd hx
    clear hx
    go_wp2_with fail
    refine (i_parts f v _ w1 (hd (Ext.new _ _)) hv hl).mono ?_
    rintro e w2 ⟨u, ys, rfl, hy, hm, hn, hu, hx⟩
    have HM0 : Hid (OwnM w2 w1.heap.size 0 []) := hd ((World.ownsMap_made w1 _ _ _).kept (grown_ext hx none) (by simp))
    have hyl : ys.length ≤ 80 := by
      have := congrArg List.length hy
      rw [List.length_map] at this
      omega
    have hcf : circF f = (runC (ys.map (·.2)) ys.length).1 := by
      have e : partsT f = ys.map (·.2) := by
        unfold partsT
        rw [← hy, List.map_map]
        exact List.map_congr_left fun y hy2 => treeB_txt (HSW.out _ (hm y hy2))
      unfold circF
      rw [e, List.length_map]
    have HCF := hd hcf
    have HMEM := hd hm
    have HU2 := hd hu
    have hform : RdPf w2 u ys := own_rd hu
    obtain ⟨A, c, rfl, hc1, hc2, -⟩ := hform.form
    unfold maxLen at hc2
    have HN1 := hd hn
    have HX12 : Hid (Ext w1 w2) := hd ((Ext.new w1 _).trans hx)
    have hbm : w1.heap.size < w2.heap.size := by have := hx.size; simp at this; omega
    have HYT : Hid ((ys.map (·.2)).length = ys.length) := hd (List.length_map ..)
    clear hcf hy hm hn hu hx hv hmm hform
    go_wp2_with fail
    go_loopw [22, 6, 9, 10] (fun i o _ _ wr => ∃ k : Nat, k ≤ ys.length ∧ i = .int .i64 (k : Int) ∧ OwnG wr w2.heap.size o (runC (ys.map (·.2)) k).1 ∧ OwnM wr w1.heap.size k (runC (ys.map (·.2)) k).2 ∧ w2.grownBy wr (some w1.heap.size)) (fun i _ _ _ _ => ys.length - (intOf i).toNat)
    case atStart => exact ⟨0, by omega, rfl, own_nil _ _ _ _, HM0.out, grown_refl _ _⟩
    case round =>
      clear HM0
      obtain ⟨k, hk, rfl, ho, hm, hgb⟩ := hrel
      have HO := hd ho
      have HM := hd hm
      have HGB := hd hgb
      have HX1R : Hid (Ext w1 wr) := hd (ext_gb HX12.out hgb (Nat.le_refl _))
      have hsz : w2.heap.size ≤ wr.heap.size := hgb.size
      have hUr : OwnPf wr (w1.heap.size + 1) (.slice A ys.length c) ys := by
        have h' : Own w2 (w1.heap.size + 1) 47 1 (.slice A ys.length c) ys.length (ptrs ys) := by have := HU2.out; simpa using this
        exact World.ownsRow.kept h' hgb (.inr fun e => by have := (own_blocks h' _ e).1; omega)
      have HR : Hid (RdPf wr (.slice A ys.length c) ys) := hd (own_rd hUr)
      obtain ⟨hgl, -⟩ := runC_len (ys.map (·.2)) k (by rw [HYT.out]; exact hk)
      clear ho hm hgb hUr
      by_cases hlt : k < ys.length
      · obtain ⟨a, rfl, hc0⟩ := RdPf.at_ HR hlt
        have HND := hd ((HN1.out _ (List.getElem_mem hlt)).ext HX1R.out)
        have HND1 := hd (HN1.out _ (List.getElem_mem hlt))
        have hsub := HMEM.out _ (List.getElem_mem hlt)
        have hwf := HSW.out _ hsub
        have htl := HST.out _ hsub
        have HRS : Hid (runC (ys.map (·.2)) (k + 1) = stepC (runC (ys.map (·.2)) k) ys[k].2) := hd (by
          rw [runC_succ _ (by rw [HYT.out]; exact hlt), List.getElem_map])
        clear hsub
        generalize ys[k] = y at *
        obtain ⟨b, y⟩ := y
        dsimp only at hwf htl HRS HND HND1
        obtain ⟨gs, hgs⟩ : ∃ gs, (runC (ys.map (·.2)) k).1 = gs := ⟨_, rfl⟩
        obtain ⟨acc, hacc⟩ : ∃ acc, (runC (ys.map (·.2)) k).2 = acc := ⟨_, rfl⟩
        obtain ⟨gn, hgn⟩ : ∃ gn, gs.length = gn := ⟨_, rfl⟩
        have HGN := hd hgn
        rw [hgs] at HO hgl
        rw [hacc] at HM
        have hbd := runC_bd (ys.map (·.2)) (by rw [HYT.out]; omega) k (by rw [HYT.out]; exact hk)
        rw [hacc] at hbd
        have hlb : ∀ t, 0 ≤ lkB acc t ∧ lkB acc t ≤ 1000 := fun t => lkB_bd acc t hbd
        rw [hgn] at hgl
        have hgl2 : gn ≤ 160 := by omega
        have hE1 : (runC (ys.map (·.2)) (k + 1)).1 = gs ++ gatesOf gn y (lkB acc (kA y)) (lkB acc (kB y)) := by rw [HRS.out, stepC, hgs, hacc, hgn]
        have hE2 : (runC (ys.map (·.2)) (k + 1)).2 = acc ++ [(txt y, (gn : Int) + (gatesOf gn y (lkB acc (kA y)) (lkB acc (kB y))).length - 1)] := by rw [HRS.out, stepC, hgs, hacc, hgn]
        have HE1 := hd hE1
        have HE2 := hd hE2
        clear hgs hacc hgn hbd hE1 hE2 HRS HR
        have hsy : (strF y).size ≤ 1048576 := by rw [strF_size]; omega
        have hky : keyOf Try.prog 9 (.string (strF y)) = some (.string (txt y)) := by
          have := Go.WideMaps.keyOf_string_mk (P := Try.prog) Try.underlying9 (s := strF y) (by unfold maxLen; omega)
          rw [strF_list] at this
          exact this
        have HKY := hd hky
        have hob : w2.heap.size ≤ wr.heap.size := hsz
        clear hky
        cases y with
        | leaf c =>
          have hwf2 : isLf c = true := hwf
          obtain ⟨b2, eb, hb⟩ := HND1.out
          obtain rfl : b = b2 := by simpa [encP] using eb
          have HB := hd hb
          have hc1 : wr.cell? (a.add k) = some (.pointer (some ⟨b, 0, none⟩)) := hc0
          obtain ⟨k0, k1, k2, k3⟩ := blk4F ((HX1R.out.alloc (.cells #[.int .i64 0, .int .i64 0, .int .i64 0] 59)).heap hb)
          clear hc0 eb hb HND HND1
          rcases byte_cases c with ⟨_, hc | hc | ⟨hc1, hc2⟩⟩ | hc | hc | ⟨h, _⟩
          · have hcc : c = 48 := u8_eq hc
            have hgo : gatesOf gn (.leaf c) (lkB acc (kA (.leaf c))) (lkB acc (kB (.leaf c))) = [⟨3, 0, 0⟩] := by rw [hcc]; rfl
            have hE1 := HE1.out
            have hE2 := HE2.out
            rw [hgo] at hE1 hE2
            have HE1 := hd hE1
            have HE2 : Hid ((runC (ys.map (·.2)) (k + 1)).2 = acc ++ [(txt (.leaf c), (gn : Int))]) := hd (by rw [hE2]; simp)
            clear hE1 hE2 hgo
            clear hwf hwf2 hlb hcc
            generalize c.toNat = on at *
            subst hc
            go_wp2_with (first | (at_builtin; refine appG _ (3) (0) (0) (own_ext HO.out (by first | exact Ext.new _ _ | exact (Ext.new _ _).drew | exact (Ext.refl _).drew.alloc _ | exact ext3 _ _ _ _ _ | exact ext3d _ _ _ _ _)) rfl _ _ rfl (by rfl) (by rfl) (by simp) (by rw [HGN.out]; omega) (by simp; omega) ?_; intro u5 w5 hu5 hg5 hb5; have hx5 : Ext w1 w5 := ext_appS (HX1R.out.trans (by first | exact Ext.new _ _ | exact (Ext.new _ _).drew | exact (Ext.refl _).drew.alloc _ | exact ext3 _ _ _ _ _ | exact ext3d _ _ _ _ _)) hg5 (fun g e => by have := (own_blocks HO.out _ e).1; omega); have hm5 : OwnM w5 w1.heap.size k acc := World.ownsMap.kept (World.ownsMap.kept HM.out (grown_ext (by first | exact Ext.new _ _ | exact (Ext.new _ _).drew | exact (Ext.refl _).drew.alloc _ | exact ext3 _ _ _ _ _ | exact ext3d _ _ _ _ _) none) (by simp)) hg5 (fun e => by have := (own_blocks HO.out _ e.symm).1; omega); obtain ⟨q0, q1, q2, q3⟩ := blk4F (hx5.heap HB.out); have HU5 := hd hu5; have HG5 := hd hg5; have HM5 := hd hm5; obtain ⟨A5, c5, rfl⟩ := OwnG.form2 hu5 (n := gn + 1) (by rw [List.length_append, HGN.out]; rfl); clear hx5 hm5 hu5 hg5 hb5) | (at_mapUpdate; refine wpList_mapUpdate_own _ rfl _ _ _ 60 rfl 9 3 (string_keyed Try.underlying9) Try.underlying60 _ w1.heap.size k _ rfl HM5.out (by unfold maxLen; omega) _ _ _ rfl rfl HKY.out _ [] (plainElem_int Try.underlying3 (by simp [Lit.wf, IntKind.min, IntKind.max, IntKind.signed, IntKind.bits]; omega)) ?_; intro w6 hm6 hg6))
            go_roundw
            case rel =>
              obtain ⟨hG, hGB⟩ := cof_end (bm := w1.heap.size) (lo := w2.heap.size) hbm rfl HGB.out (by first | exact Ext.new _ _ | exact (Ext.new _ _).drew | exact (Ext.refl _).drew.alloc _ | exact ext3 _ _ _ _ _ | exact ext3d _ _ _ _ _) HO.out HG5.out HU5.out hg6
              exact ⟨k + 1, by omega, by go_num, by rw [HE1.out]; exact hG, by rw [HE2.out]; unfold OwnM; rw [dM_snoc]; exact hm6, hGB⟩
            case measure => simp [intOf]; omega
          · have hcc : c = 49 := u8_eq hc
            have hgo : gatesOf gn (.leaf c) (lkB acc (kA (.leaf c))) (lkB acc (kB (.leaf c))) = [⟨2, 0, 0⟩] := by rw [hcc]; rfl
            have hE1 := HE1.out
            have hE2 := HE2.out
            rw [hgo] at hE1 hE2
            have HE1 := hd hE1
            have HE2 : Hid ((runC (ys.map (·.2)) (k + 1)).2 = acc ++ [(txt (.leaf c), (gn : Int))]) := hd (by rw [hE2]; simp)
            clear hE1 hE2 hgo
            clear hwf hwf2 hlb hcc
            generalize c.toNat = on at *
            subst hc
            go_wp2_with (first | (at_builtin; refine appG _ (2) (0) (0) (own_ext HO.out (by first | exact Ext.new _ _ | exact (Ext.new _ _).drew | exact (Ext.refl _).drew.alloc _ | exact ext3 _ _ _ _ _ | exact ext3d _ _ _ _ _)) rfl _ _ rfl (by rfl) (by rfl) (by simp) (by rw [HGN.out]; omega) (by simp; omega) ?_; intro u5 w5 hu5 hg5 hb5; have hx5 : Ext w1 w5 := ext_appS (HX1R.out.trans (by first | exact Ext.new _ _ | exact (Ext.new _ _).drew | exact (Ext.refl _).drew.alloc _ | exact ext3 _ _ _ _ _ | exact ext3d _ _ _ _ _)) hg5 (fun g e => by have := (own_blocks HO.out _ e).1; omega); have hm5 : OwnM w5 w1.heap.size k acc := World.ownsMap.kept (World.ownsMap.kept HM.out (grown_ext (by first | exact Ext.new _ _ | exact (Ext.new _ _).drew | exact (Ext.refl _).drew.alloc _ | exact ext3 _ _ _ _ _ | exact ext3d _ _ _ _ _) none) (by simp)) hg5 (fun e => by have := (own_blocks HO.out _ e.symm).1; omega); obtain ⟨q0, q1, q2, q3⟩ := blk4F (hx5.heap HB.out); have HU5 := hd hu5; have HG5 := hd hg5; have HM5 := hd hm5; obtain ⟨A5, c5, rfl⟩ := OwnG.form2 hu5 (n := gn + 1) (by rw [List.length_append, HGN.out]; rfl); clear hx5 hm5 hu5 hg5 hb5) | (at_mapUpdate; refine wpList_mapUpdate_own _ rfl _ _ _ 60 rfl 9 3 (string_keyed Try.underlying9) Try.underlying60 _ w1.heap.size k _ rfl HM5.out (by unfold maxLen; omega) _ _ _ rfl rfl HKY.out _ [] (plainElem_int Try.underlying3 (by simp [Lit.wf, IntKind.min, IntKind.max, IntKind.signed, IntKind.bits]; omega)) ?_; intro w6 hm6 hg6))
            go_roundw
            case rel =>
              obtain ⟨hG, hGB⟩ := cof_end (bm := w1.heap.size) (lo := w2.heap.size) hbm rfl HGB.out (by first | exact Ext.new _ _ | exact (Ext.new _ _).drew | exact (Ext.refl _).drew.alloc _ | exact ext3 _ _ _ _ _ | exact ext3d _ _ _ _ _) HO.out HG5.out HU5.out hg6
              exact ⟨k + 1, by omega, by go_num, by rw [HE1.out]; exact hG, by rw [HE2.out]; unfold OwnM; rw [dM_snoc]; exact hm6, hGB⟩
            case measure => simp [intOf]; omega
          · obtain ⟨j, hj⟩ : ∃ j, c.toNat = 97 + j := ⟨c.toNat - 97, by omega⟩
            have hj5 : j ≤ 5 := by omega
            have hne : c ≠ 48 ∧ c ≠ 49 := ⟨fun e => by rw [e] at hc1; exact absurd hc1 (by decide), fun e => by rw [e] at hc1; exact absurd hc1 (by decide)⟩
            have hcj : (c.toNat : Int) - 97 + 1 = (j : Int) + 1 := by omega
            have hgo : gatesOf gn (.leaf c) (lkB acc (kA (.leaf c))) (lkB acc (kB (.leaf c))) = [⟨1, (j : Int) + 1, 0⟩] := by show (if c = 48 then _ else if c = 49 then _ else _) = _; rw [if_neg hne.1, if_neg hne.2, hcj]
            have hE1 := HE1.out
            have hE2 := HE2.out
            rw [hgo] at hE1 hE2
            have HE1 := hd hE1
            have HE2 : Hid ((runC (ys.map (·.2)) (k + 1)).2 = acc ++ [(txt (.leaf c), (gn : Int))]) := hd (by rw [hE2]; simp)
            clear hE1 hE2 hgo
            clear hwf hwf2 hlb hne hcj
            generalize c.toNat = on at *
            have g1 : ((on : Int) == 48) = false := by simp; omega
            have g2 : ((on : Int) == 49) = false := by simp; omega
            have g3 : ((on : Int) == 126) = false := by simp; omega
            have g4 : ((on : Int) == 38) = false := by simp; omega
            have g5 : ((on : Int) == 124) = false := by simp; omega
            have g6 : ((on : Int) == 62) = false := by simp; omega
            have g7 : IntKind.u8.wrap ((on : Int) - 97) = (j : Int) := by rw [hj]; simp [IntKind.wrap, IntKind.bits, IntKind.signed]; omega
            clear hj hc1 hc2
            go_wp2_with (first | (at_builtin; refine appG _ (1) ((j : Int) + 1) (0) (own_ext HO.out (by first | exact Ext.new _ _ | exact (Ext.new _ _).drew | exact (Ext.refl _).drew.alloc _ | exact ext3 _ _ _ _ _ | exact ext3d _ _ _ _ _)) rfl _ _ rfl (by rfl) (by rfl) (by simp) (by rw [HGN.out]; omega) (by simp; omega) ?_; intro u5 w5 hu5 hg5 hb5; have hx5 : Ext w1 w5 := ext_appS (HX1R.out.trans (by first | exact Ext.new _ _ | exact (Ext.new _ _).drew | exact (Ext.refl _).drew.alloc _ | exact ext3 _ _ _ _ _ | exact ext3d _ _ _ _ _)) hg5 (fun g e => by have := (own_blocks HO.out _ e).1; omega); have hm5 : OwnM w5 w1.heap.size k acc := World.ownsMap.kept (World.ownsMap.kept HM.out (grown_ext (by first | exact Ext.new _ _ | exact (Ext.new _ _).drew | exact (Ext.refl _).drew.alloc _ | exact ext3 _ _ _ _ _ | exact ext3d _ _ _ _ _) none) (by simp)) hg5 (fun e => by have := (own_blocks HO.out _ e.symm).1; omega); obtain ⟨q0, q1, q2, q3⟩ := blk4F (hx5.heap HB.out); have HU5 := hd hu5; have HG5 := hd hg5; have HM5 := hd hm5; obtain ⟨A5, c5, rfl⟩ := OwnG.form2 hu5 (n := gn + 1) (by rw [List.length_append, HGN.out]; rfl); clear hx5 hm5 hu5 hg5 hb5) | (at_mapUpdate; refine wpList_mapUpdate_own _ rfl _ _ _ 60 rfl 9 3 (string_keyed Try.underlying9) Try.underlying60 _ w1.heap.size k _ rfl HM5.out (by unfold maxLen; omega) _ _ _ rfl rfl HKY.out _ [] (plainElem_int Try.underlying3 (by simp [Lit.wf, IntKind.min, IntKind.max, IntKind.signed, IntKind.bits]; omega)) ?_; intro w6 hm6 hg6))
            go_roundw
            case rel =>
              obtain ⟨hG, hGB⟩ := cof_end (bm := w1.heap.size) (lo := w2.heap.size) hbm rfl HGB.out (by first | exact Ext.new _ _ | exact (Ext.new _ _).drew | exact (Ext.refl _).drew.alloc _ | exact ext3 _ _ _ _ _ | exact ext3d _ _ _ _ _) HO.out HG5.out HU5.out hg6
              exact ⟨k + 1, by omega, by go_num, by rw [HE1.out]; exact hG, by rw [HE2.out]; unfold OwnM; rw [dM_snoc]; exact hm6, hGB⟩
            case measure => simp [intOf]; omega
          · rw [u8_eq hc] at hwf2; exact absurd hwf2 (by decide)
          · rw [u8_eq hc] at hwf2; exact absurd hwf2 (by decide)
          · rw [h] at hwf2; cases hwf2
        | neg y1 =>
          obtain ⟨b2, va, eb, hb, hka⟩ := HND1.out
          obtain rfl : b = b2 := by simpa [encP] using eb
          have HB := hd hb
          obtain ⟨ba, _, _, rfl, hba⟩ := hka.head
          have hc1 : wr.cell? (a.add k) = some (.pointer (some ⟨b, 0, none⟩)) := hc0
          obtain ⟨k0, k1, k2, k3⟩ := blk4F ((HX1R.out.alloc (.cells #[.int .i64 0, .int .i64 0, .int .i64 0] 59)).heap hb)
          obtain ⟨l0, l1, l2, l3⟩ := blk4F ((HX1R.out.alloc (.cells #[.int .i64 0, .int .i64 0, .int .i64 0] 59)).heap hba)
          have hla : (strF y1).size ≤ 1048576 := by rw [strF_size]; simp [txt] at htl; omega
          have hlk := lk_run (World.ownsMap.alloc HM.out (.cells #[.int .i64 0, .int .i64 0, .int .i64 0] 59)) (strF y1) hla
          rw [strF_list] at hlk
          have hgo : gatesOf gn (.neg y1) (lkB acc (kA (.neg y1))) (lkB acc (kB (.neg y1))) = [⟨4, lkB acc (txt y1), 0⟩] := rfl
          have hE1 := HE1.out
          have hE2 := HE2.out
          rw [hgo] at hE1 hE2
          have HE1 := hd hE1
          have HE2 : Hid ((runC (ys.map (·.2)) (k + 1)).2 = acc ++ [(txt (.neg y1), (gn : Int))]) := hd (by rw [hE2]; simp)
          clear hE1 hE2 hgo
          obtain ⟨xa, hxa⟩ : ∃ xa, lkB acc (txt y1) = xa := ⟨_, rfl⟩
          rw [hxa] at HE1 hlk
          clear hc0 eb hb HND HND1 hka hba hwf hlb hxa hla
          go_wp2_with (first | (at_builtin; refine appG _ (4) (xa) (0) (own_ext HO.out (by first | exact Ext.new _ _ | exact (Ext.new _ _).drew | exact (Ext.refl _).drew.alloc _ | exact ext3 _ _ _ _ _ | exact ext3d _ _ _ _ _)) rfl _ _ rfl (by rfl) (by rfl) (by simp) (by rw [HGN.out]; omega) (by simp; omega) ?_; intro u5 w5 hu5 hg5 hb5; have hx5 : Ext w1 w5 := ext_appS (HX1R.out.trans (by first | exact Ext.new _ _ | exact (Ext.new _ _).drew | exact (Ext.refl _).drew.alloc _ | exact ext3 _ _ _ _ _ | exact ext3d _ _ _ _ _)) hg5 (fun g e => by have := (own_blocks HO.out _ e).1; omega); have hm5 : OwnM w5 w1.heap.size k acc := World.ownsMap.kept (World.ownsMap.kept HM.out (grown_ext (by first | exact Ext.new _ _ | exact (Ext.new _ _).drew | exact (Ext.refl _).drew.alloc _ | exact ext3 _ _ _ _ _ | exact ext3d _ _ _ _ _) none) (by simp)) hg5 (fun e => by have := (own_blocks HO.out _ e.symm).1; omega); obtain ⟨q0, q1, q2, q3⟩ := blk4F (hx5.heap HB.out); have HU5 := hd hu5; have HG5 := hd hg5; have HM5 := hd hm5; obtain ⟨A5, c5, rfl⟩ := OwnG.form2 hu5 (n := gn + 1) (by rw [List.length_append, HGN.out]; rfl); clear hx5 hm5 hu5 hg5 hb5) | (at_mapUpdate; refine wpList_mapUpdate_own _ rfl _ _ _ 60 rfl 9 3 (string_keyed Try.underlying9) Try.underlying60 _ w1.heap.size k _ rfl HM5.out (by unfold maxLen; omega) _ _ _ rfl rfl HKY.out _ [] (plainElem_int Try.underlying3 (by simp [Lit.wf, IntKind.min, IntKind.max, IntKind.signed, IntKind.bits]; omega)) ?_; intro w6 hm6 hg6))
          go_roundw
          case rel =>
            obtain ⟨hG, hGB⟩ := cof_end (bm := w1.heap.size) (lo := w2.heap.size) hbm rfl HGB.out (by first | exact Ext.new _ _ | exact (Ext.new _ _).drew | exact (Ext.refl _).drew.alloc _ | exact ext3 _ _ _ _ _ | exact ext3d _ _ _ _ _) HO.out HG5.out HU5.out hg6
            exact ⟨k + 1, by omega, by go_num, by rw [HE1.out]; exact hG, by rw [HE2.out]; unfold OwnM; rw [dM_snoc]; exact hm6, hGB⟩
          case measure => simp [intOf]; omega
        | bin oo y1 y2 =>
          have hop : isOp oo = true := (wf_bin hwf).1
          obtain ⟨b2, va, vb, eb, hb, hka, hkb⟩ := HND1.out
          obtain rfl : b = b2 := by simpa [encP] using eb
          have HB := hd hb
          obtain ⟨ba, _, _, rfl, hba⟩ := hka.head
          obtain ⟨bb, _, _, rfl, hbb⟩ := hkb.head
          have HBA := hd hba
          have HBB := hd hbb
          have hc1 : wr.cell? (a.add k) = some (.pointer (some ⟨b, 0, none⟩)) := hc0
          obtain ⟨k0, k1, k2, k3⟩ := blk4F ((HX1R.out.alloc (.cells #[.int .i64 0, .int .i64 0, .int .i64 0] 59)).heap hb)
          obtain ⟨l0, l1, l2, l3⟩ := blk4F ((HX1R.out.alloc (.cells #[.int .i64 0, .int .i64 0, .int .i64 0] 59)).heap hba)
          obtain ⟨m0, m1, m2, m3⟩ := blk4F ((HX1R.out.alloc (.cells #[.int .i64 0, .int .i64 0, .int .i64 0] 59)).heap hbb)
          have hla : (strF y1).size ≤ 1048576 := by rw [strF_size]; simp [txt] at htl; omega
          have hla2 : (strF y2).size ≤ 1048576 := by rw [strF_size]; simp [txt] at htl; omega
          have hlk := lk_run (World.ownsMap.alloc HM.out (.cells #[.int .i64 0, .int .i64 0, .int .i64 0] 59)) (strF y1) hla
          have hlkd := lk_run (World.ownsMap.drew (World.ownsMap.alloc HM.out (.cells #[.int .i64 0, .int .i64 0, .int .i64 0] 59))) (strF y1) hla
          have hlkd2 := lk_run (World.ownsMap.drew (World.ownsMap.alloc HM.out (.cells #[.int .i64 0, .int .i64 0, .int .i64 0] 59))) (strF y2) hla2
          have HLK2 : Hid (∀ W, OwnM W w1.heap.size k acc → (Instr.lookup 60 (.map (some w1.heap.size)) (.string (strF y2)) false).run Try.prog W = .ok (.int .i64 (lkB acc (txt y2))) W) := hd fun W hW => by have := lk_run hW (strF y2) hla2; rw [strF_list] at this; exact this
          rw [strF_list] at hlk hlkd hlkd2
          clear hc0 eb hb HND HND1 hka hkb hba hbb hwf hlb hla hla2
          rcases op_cases oo with ⟨_, hc | hc | hc⟩ | ⟨h, _⟩
          · have hcc : oo = 38 := u8_eq hc
            have hgo : gatesOf gn (.bin oo y1 y2) (lkB acc (kA (.bin oo y1 y2))) (lkB acc (kB (.bin oo y1 y2))) = [⟨5, lkB acc (txt y1), lkB acc (txt y2)⟩] := by rw [hcc]; rfl
            have hE1 := HE1.out
            have hE2 := HE2.out
            rw [hgo] at hE1 hE2
            have HE1 := hd hE1
            have HE2 : Hid ((runC (ys.map (·.2)) (k + 1)).2 = acc ++ [(txt (.bin oo y1 y2), (gn : Int))]) := hd (by rw [hE2]; simp)
            clear hE1 hE2 hgo
            obtain ⟨xa, hxa⟩ : ∃ xa, lkB acc (txt y1) = xa := ⟨_, rfl⟩
            obtain ⟨xb, hxb⟩ : ∃ xb, lkB acc (txt y2) = xb := ⟨_, rfl⟩
            rw [hxa] at hlk hlkd
            rw [hxb] at hlkd2 HLK2
            rw [hxa, hxb] at HE1
            clear hxa hxb hcc hop
            generalize oo.toNat = on at *
            subst hc
            have hbx : ((wr.alloc (.cells #[.int .i64 0, .int .i64 0, .int .i64 0] 59)).drew).heap[wr.heap.size]? = some (.cells #[.int .i64 0, .int .i64 0, .int .i64 0] 59) := heap_alloc_new wr _
            obtain ⟨⟨s0, s1, s2⟩, f0, f1, f2⟩ := blk3G hbx
            have HXS : Hid (Ext wr ((wr.alloc (.cells #[.int .i64 0, .int .i64 0, .int .i64 0] 59)).drew)) := hd (Ext.new wr _).drew
            have hws : wr.heap.size < ((wr.alloc (.cells #[.int .i64 0, .int .i64 0, .int .i64 0] 59)).drew).heap.size := by simp
            have d1 : ((wr.alloc (.cells #[.int .i64 0, .int .i64 0, .int .i64 0] 59)).drew).cell? ⟨b, 1, none⟩ = _ := k1
            have d2 : ((wr.alloc (.cells #[.int .i64 0, .int .i64 0, .int .i64 0] 59)).drew).cell? ⟨b, 2, none⟩ = _ := k2
            have d3 : ((wr.alloc (.cells #[.int .i64 0, .int .i64 0, .int .i64 0] 59)).drew).cell? ⟨ba, 3, none⟩ = _ := l3
            have d4 : ((wr.alloc (.cells #[.int .i64 0, .int .i64 0, .int .i64 0] 59)).drew).cell? ⟨bb, 3, none⟩ = _ := m3
            clear hbx k1 k2 k3 l0 l1 l2 l3 m0 m1 m2 m3 hlk HLK2 HBA HBB
            go_wp2_with fail
            refine wp_region_still_tail 19 (by kernel_rfl) (by kernel_rfl) ?_
            change wpStill _ _ ((wr.alloc (.cells #[.int .i64 0, .int .i64 0, .int .i64 0] 59)).drew) (fun a2 => wpList _ _ _ _ a2 ((wr.alloc (.cells #[.int .i64 0, .int .i64 0, .int .i64 0] 59)).drew)) _ _
            generalize (wr.alloc (.cells #[.int .i64 0, .int .i64 0, .int .i64 0] 59)).drew = ws at *
            simp only [List.take_succ_cons, List.take_zero, List.drop_succ_cons, List.drop_zero]
            repeat still_step
            refine wpStill_nil ?_
            go_wp2_with (first | (at_builtin; refine appG _ (5) (xa) (xb) (own_ext HO.out (gt_ext HXS.out (Nat.le_refl _))) rfl _ _ rfl (by rfl) (by rfl) (by simp) (by rw [HGN.out]; omega) (by simp; omega) ?_; intro u5 w5 hu5 hg5 hb5; have hx5 : Ext w1 w5 := ext_appS (HX1R.out.trans (gt_ext HXS.out (Nat.le_refl _))) hg5 (fun g e => by have := (own_blocks HO.out _ e).1; omega); have hm5 : OwnM w5 w1.heap.size k acc := World.ownsMap.kept (World.ownsMap.kept HM.out (grown_ext (gt_ext HXS.out (Nat.le_refl _)) none) (by simp)) hg5 (fun e => by have := (own_blocks HO.out _ e.symm).1; omega); obtain ⟨q0, q1, q2, q3⟩ := blk4F (hx5.heap HB.out); have HU5 := hd hu5; have HG5 := hd hg5; have HM5 := hd hm5; obtain ⟨A5, c5, rfl⟩ := OwnG.form2 hu5 (n := gn + 1) (by rw [List.length_append, HGN.out]; rfl); clear hx5 hm5 hu5 hg5 hb5) | (at_mapUpdate; refine wpList_mapUpdate_own _ rfl _ _ _ 60 rfl 9 3 (string_keyed Try.underlying9) Try.underlying60 _ w1.heap.size k _ rfl HM5.out (by unfold maxLen; omega) _ _ _ rfl rfl HKY.out _ [] (plainElem_int Try.underlying3 (by simp [Lit.wf, IntKind.min, IntKind.max, IntKind.signed, IntKind.bits]; omega)) ?_; intro w6 hm6 hg6))
            go_roundw
            case rel =>
              obtain ⟨hG, hGB⟩ := cof_end (bm := w1.heap.size) (lo := w2.heap.size) hbm rfl HGB.out (gt_ext HXS.out (Nat.le_refl _)) HO.out HG5.out HU5.out hg6
              exact ⟨k + 1, by omega, by go_num, by rw [HE1.out]; exact hG, by rw [HE2.out]; unfold OwnM; rw [dM_snoc]; exact hm6, hGB⟩
            case measure => simp [intOf]; omega
          · have hcc : oo = 124 := u8_eq hc
            have hgo : gatesOf gn (.bin oo y1 y2) (lkB acc (kA (.bin oo y1 y2))) (lkB acc (kB (.bin oo y1 y2))) = [⟨6, lkB acc (txt y1), lkB acc (txt y2)⟩] := by rw [hcc]; rfl
            have hE1 := HE1.out
            have hE2 := HE2.out
            rw [hgo] at hE1 hE2
            have HE1 := hd hE1
            have HE2 : Hid ((runC (ys.map (·.2)) (k + 1)).2 = acc ++ [(txt (.bin oo y1 y2), (gn : Int))]) := hd (by rw [hE2]; simp)
            clear hE1 hE2 hgo
            obtain ⟨xa, hxa⟩ : ∃ xa, lkB acc (txt y1) = xa := ⟨_, rfl⟩
            obtain ⟨xb, hxb⟩ : ∃ xb, lkB acc (txt y2) = xb := ⟨_, rfl⟩
            rw [hxa] at hlk hlkd
            rw [hxb] at hlkd2 HLK2
            rw [hxa, hxb] at HE1
            clear hxa hxb hcc hop
            generalize oo.toNat = on at *
            subst hc
            have hbx : ((wr.alloc (.cells #[.int .i64 0, .int .i64 0, .int .i64 0] 59)).drew).heap[wr.heap.size]? = some (.cells #[.int .i64 0, .int .i64 0, .int .i64 0] 59) := heap_alloc_new wr _
            obtain ⟨⟨s0, s1, s2⟩, f0, f1, f2⟩ := blk3G hbx
            have HXS : Hid (Ext wr ((wr.alloc (.cells #[.int .i64 0, .int .i64 0, .int .i64 0] 59)).drew)) := hd (Ext.new wr _).drew
            have hws : wr.heap.size < ((wr.alloc (.cells #[.int .i64 0, .int .i64 0, .int .i64 0] 59)).drew).heap.size := by simp
            have d1 : ((wr.alloc (.cells #[.int .i64 0, .int .i64 0, .int .i64 0] 59)).drew).cell? ⟨b, 1, none⟩ = _ := k1
            have d2 : ((wr.alloc (.cells #[.int .i64 0, .int .i64 0, .int .i64 0] 59)).drew).cell? ⟨b, 2, none⟩ = _ := k2
            have d3 : ((wr.alloc (.cells #[.int .i64 0, .int .i64 0, .int .i64 0] 59)).drew).cell? ⟨ba, 3, none⟩ = _ := l3
            have d4 : ((wr.alloc (.cells #[.int .i64 0, .int .i64 0, .int .i64 0] 59)).drew).cell? ⟨bb, 3, none⟩ = _ := m3
            clear hbx k1 k2 k3 l0 l1 l2 l3 m0 m1 m2 m3 hlk HLK2 HBA HBB
            go_wp2_with fail
            refine wp_region_still_tail 19 (by kernel_rfl) (by kernel_rfl) ?_
            change wpStill _ _ ((wr.alloc (.cells #[.int .i64 0, .int .i64 0, .int .i64 0] 59)).drew) (fun a2 => wpList _ _ _ _ a2 ((wr.alloc (.cells #[.int .i64 0, .int .i64 0, .int .i64 0] 59)).drew)) _ _
            generalize (wr.alloc (.cells #[.int .i64 0, .int .i64 0, .int .i64 0] 59)).drew = ws at *
            simp only [List.take_succ_cons, List.take_zero, List.drop_succ_cons, List.drop_zero]
            repeat still_step
            refine wpStill_nil ?_
            go_wp2_with (first | (at_builtin; refine appG _ (6) (xa) (xb) (own_ext HO.out (gt_ext HXS.out (Nat.le_refl _))) rfl _ _ rfl (by rfl) (by rfl) (by simp) (by rw [HGN.out]; omega) (by simp; omega) ?_; intro u5 w5 hu5 hg5 hb5; have hx5 : Ext w1 w5 := ext_appS (HX1R.out.trans (gt_ext HXS.out (Nat.le_refl _))) hg5 (fun g e => by have := (own_blocks HO.out _ e).1; omega); have hm5 : OwnM w5 w1.heap.size k acc := World.ownsMap.kept (World.ownsMap.kept HM.out (grown_ext (gt_ext HXS.out (Nat.le_refl _)) none) (by simp)) hg5 (fun e => by have := (own_blocks HO.out _ e.symm).1; omega); obtain ⟨q0, q1, q2, q3⟩ := blk4F (hx5.heap HB.out); have HU5 := hd hu5; have HG5 := hd hg5; have HM5 := hd hm5; obtain ⟨A5, c5, rfl⟩ := OwnG.form2 hu5 (n := gn + 1) (by rw [List.length_append, HGN.out]; rfl); clear hx5 hm5 hu5 hg5 hb5) | (at_mapUpdate; refine wpList_mapUpdate_own _ rfl _ _ _ 60 rfl 9 3 (string_keyed Try.underlying9) Try.underlying60 _ w1.heap.size k _ rfl HM5.out (by unfold maxLen; omega) _ _ _ rfl rfl HKY.out _ [] (plainElem_int Try.underlying3 (by simp [Lit.wf, IntKind.min, IntKind.max, IntKind.signed, IntKind.bits]; omega)) ?_; intro w6 hm6 hg6))
            go_roundw
            case rel =>
              obtain ⟨hG, hGB⟩ := cof_end (bm := w1.heap.size) (lo := w2.heap.size) hbm rfl HGB.out (gt_ext HXS.out (Nat.le_refl _)) HO.out HG5.out HU5.out hg6
              exact ⟨k + 1, by omega, by go_num, by rw [HE1.out]; exact hG, by rw [HE2.out]; unfold OwnM; rw [dM_snoc]; exact hm6, hGB⟩
            case measure => simp [intOf]; omega
          · have hcc : oo = 62 := u8_eq hc
            have hgo : gatesOf gn (.bin oo y1 y2) (lkB acc (kA (.bin oo y1 y2))) (lkB acc (kB (.bin oo y1 y2))) = [⟨4, lkB acc (txt y1), 0⟩, ⟨6, gn, lkB acc (txt y2)⟩] := by rw [hcc]; rfl
            have hE1 := HE1.out
            have hE2 := HE2.out
            rw [hgo] at hE1 hE2
            have HE1 := hd hE1
            have HE2 : Hid ((runC (ys.map (·.2)) (k + 1)).2 = acc ++ [(txt (.bin oo y1 y2), (gn : Int) + 2 - 1)]) := hd (by rw [hE2]; rfl)
            clear hE1 hE2 hgo
            obtain ⟨xa, hxa⟩ : ∃ xa, lkB acc (txt y1) = xa := ⟨_, rfl⟩
            obtain ⟨xb, hxb⟩ : ∃ xb, lkB acc (txt y2) = xb := ⟨_, rfl⟩
            rw [hxa] at hlk hlkd
            rw [hxb] at hlkd2 HLK2
            rw [hxa, hxb] at HE1
            clear hxa hxb hcc hop hlkd hlkd2
            generalize oo.toNat = on at *
            subst hc
            go_wp2_with (first | (at_builtin; refine appG _ 4 xa 0 (own_ext HO.out (Ext.new wr _)) rfl _ _ rfl (by rfl) (by rfl) (by simp) (by rw [HGN.out]; omega) (by simp; omega) ?_; intro u4 w4 hu4 hg4 hb4; have hx4 : Ext w1 w4 := ext_appS (HX1R.out.alloc _) hg4 (fun g e => by have := (own_blocks HO.out _ e).1; omega); have hm4 : OwnM w4 w1.heap.size k acc := World.ownsMap.kept (World.ownsMap.alloc HM.out _) hg4 (fun e => by have := (own_blocks HO.out _ e.symm).1; omega); obtain ⟨q0, q1, q2, q3⟩ := blk4F (hx4.heap HB.out); obtain ⟨r0, r1, r2, r3⟩ := blk4F (hx4.heap HBB.out); have hlk4 := HLK2.out w4 hm4; have hbx : w4.heap[wr.heap.size]? = some (.cells #[.int .i64 0, .int .i64 0, .int .i64 0] 59) := (by rw [hg4.block _ (by simp) (fun e => by have := (own_blocks HO.out _ e.symm).2; omega)]; exact heap_alloc_new wr _); obtain ⟨⟨s0, s1, s2⟩, f0, f1, f2⟩ := blk3G hbx; have hgb4 : w2.grownBy w4 (some w1.heap.size) := gb_step (grown_trans HGB.out (grown_ext (Ext.new wr _) _)) hg4 (fun g e => .inr (own_blocks HO.out _ e).1); have hs4 : wr.heap.size < w4.heap.size := (by have := hg4.size; have e4 : (wr.alloc (.cells #[.int .i64 0, .int .i64 0, .int .i64 0] 59)).heap.size = wr.heap.size + 1 := (by simp); omega); have hbn : ∀ g, u4.ownBlock = some g → g ≠ wr.heap.size := fun g e e2 => (by rcases hb4 with h | h; (· rw [h] at e; have := (own_blocks HO.out _ e).2; omega); (· rw [h] at e; have e3 := Option.some.inj e; have e4 : (wr.alloc (.cells #[.int .i64 0, .int .i64 0, .int .i64 0] 59)).heap.size = wr.heap.size + 1 := (by simp); omega)); obtain ⟨A4, c4, rfl⟩ := OwnG.form2 hu4 (n := gn + 1) (by rw [List.length_append, HGN.out]; rfl); have HU4 := hd hu4; have HX4 := hd hx4; have HM4 := hd hm4; have HGB4 := hd hgb4; have HBN := hd hbn; clear hu4 hx4 hm4 hgb4 hbn hg4 hb4 hbx) | (at_builtin; refine appG _ 6 (gn : Int) xb (gt_own HU4.out HBN.out) rfl _ _ rfl (by rfl) (by rfl) (by simp) (by rw [List.length_append, HGN.out]; simp; omega) (by simp; omega) ?_; intro u5 w5 hu5 hg5 hb5; have hx5 : Ext w1 w5 := ext_appS (gt_ext HX4.out (by have := HX1R.out.size; omega)) hg5 (fun g e => by have := (own_blocks HU4.out _ e).1; omega); have hm5 : OwnM w5 w1.heap.size k acc := World.ownsMap.kept (World.ownsMap.kept HM4.out (gt_grown w4 _ _ _ _) (by simp; omega)) hg5 (fun e => by have := (own_blocks HU4.out _ e.symm).1; omega); obtain ⟨t0, t1, t2, t3⟩ := blk4F (hx5.heap HB.out); have HU5 := hd hu5; have HG5 := hd hg5; have HM5 := hd hm5; obtain ⟨A5, c5, rfl⟩ := OwnG.form2 hu5 (n := gn + 2) (by rw [List.length_append, List.length_append, HGN.out]; rfl); clear hx5 hm5 hu5 hg5 hb5) | (at_mapUpdate; refine wpList_mapUpdate_own _ rfl _ _ _ 60 rfl 9 3 (string_keyed Try.underlying9) Try.underlying60 _ w1.heap.size k _ rfl HM5.out (by unfold maxLen; omega) _ _ _ rfl rfl HKY.out _ [] (plainElem_int Try.underlying3 (by simp [Lit.wf, IntKind.min, IntKind.max, IntKind.signed, IntKind.bits]; omega)) ?_; intro w6 hm6 hg6))
            go_roundw
            case rel =>
              obtain ⟨hG, hGB⟩ := cof_end (bm := w1.heap.size) (lo := w2.heap.size) hbm rfl (gb_step HGB4.out (gt_grown w4 wr.heap.size _ _ _) (fun g e => .inr (by injection e with e; omega))) (Ext.refl _) (gt_own HU4.out HBN.out) HG5.out HU5.out hg6
              exact ⟨k + 1, by omega, by go_num, by rw [HE1.out]; rw [List.append_assoc] at hG; exact hG, by rw [HE2.out]; unfold OwnM; rw [dM_snoc]; exact hm6, hGB⟩
            case measure => simp [intOf]; omega
          · rw [h] at hop; cases hop
      · obtain rfl : k = ys.length := by omega
        have HL := HCF.out
        have hg9 : (runC (ys.map (·.2)) ys.length).1.length ≤ 200 := by rw [← HL]; omega
        obtain ⟨A2, c2, rfl⟩ := OwnG.form HO.out
        have hg10 : ¬ (200 : Int) < ((runC (ys.map (·.2)) ys.length).1.length : Int) := by omega
        go_wp2
        go_ret2
        refine ⟨_, by rw [HF.out]; rfl, ?_, HX1.out.trans HX1R.out⟩
        have := own_rebase (base' := w.heap.size) HO.out (by have := HX1.out.size; omega)
        rw [HV.out, HCF.out]
        exact ⟨this, own_lt this⟩
end Go.Proofs.Ytmfgcpeddfbngaa
