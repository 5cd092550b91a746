/-
  Cuts of charged graphs: both sides. Condition: sizes up to 2^20.
-/
import Derived.Test.YtpljmlkinjhigaaEdgesAt
import Derived.Test.YtpljmlkinjhigaaSel
import Derived.IntWalk
namespace Go.Proofs.Ytpljmlkinjhigaa
open Go.RowKit
/-- The edge of index k has just one vertex in xs. -/
def crB (es : List (Int × Int)) (xs : List Int) (k : Nat) : Bool := match es[k]? with
  | some e => hasI xs e.1 != hasI xs e.2
  | none => false
theorem crB_of {es : List (Int × Int)} {xs : List Int} {k : Nat} (h : k < es.length) : crB es xs k = (hasI xs es[k].1 != hasI xs es[k].2) := by unfold crB; rw [List.getElem?_eq_getElem h]
def cutL (g : Chg) (xs : List Int) : List Int := selN (crB g.es xs) g.es.length
set_option maxRecDepth 100000 in
set_option maxHeartbeats 1600000 in
theorem s_l27Cut (g : Chg) (gv : Value) (xs : List Int) (v : Value) (w : World) (h : RdC w gv g) (hl : g.es.length ≤ 1048576) (hv : RdI w v xs) (hlx : xs.length ≤ 1048576) :
    Calls Try.prog 77 #[gv, v] w (RetI w 3 (cutL g xs)) := by
  obtain ⟨ve, vc, rfl, hE, -⟩ := h
  obtain ⟨A, c, rfl, h1, h2, ha⟩ := hE.form
  have HV := hd hv
  clear hE hv
  unfold cutL
  generalize g.es = es at *
  go_enter Try.func77, Try.ntmps77
  go_wp2
  go_loopw [6, 5] (fun i v' wr => ∃ k : Nat, k ≤ es.length ∧ i = .int .i64 k ∧ OwnI wr (w.heap.size + 1) 3 v' (selN (crB es xs) k) ∧ Ext (w.alloc (.cells #[.int .i64 g.n, .slice A es.length c, vc] 40)) wr) (fun i _ _ => es.length - (intOf i).toNat)
  case atStart => exact ⟨0, by omega, rfl, ownI_emp (by simp) (by omega), Ext.new _ _⟩
  case round =>
    obtain ⟨k, hk, rfl, ho, hx⟩ := hrel
    have hb := hx.cell (p := ⟨w.heap.size, 1, none⟩) (u := .slice A es.length c) (by simp [go_sem])
    have HB := hd hx
    have HX := hd hx.box
    have HO := hd ho
    have hxs : w.heap.size + 1 ≤ wr.heap.size := by have := HB.out.size; simpa using this
    have hal := selN_len (crB es xs) k
    clear ho hx
    by_cases hlt : k < es.length
    · obtain ⟨a, rfl, hc0, hc1⟩ := RdP.at_ ha hlt
      have c0 := HX.out.cell hc0
      have c1 := HX.out.cell hc1
      have HT := hd (crB_of (xs := xs) hlt)
      have HR := hd (HV.out.ext HX.out)
      clear hc0 hc1
      generalize es[k] = e at *
      obtain ⟨x, y⟩ := e
      dsimp only at HT
      obtain ⟨b1, hb1⟩ : ∃ b, hasI xs x = b := ⟨_, rfl⟩
      obtain ⟨b2, hb2⟩ : ∃ b, hasI xs y = b := ⟨_, rfl⟩
      rw [hb1, hb2] at HT
      have H1 := hd hb1
      have H2 := hd hb2
      clear hb1 hb2
      have e1 : (0 : Int) ≤ (k : Int) := by omega
      have e2 : (k : Int) < (es.length : Int) := by omega
      cases b1 <;> cases b2
      all_goals
        go_wp2_with fail
        go_quiet ((go_at_call 123; first | exact q_same (rt (s_l1Has xs _ _ _ HR.out (by omega)) H1) | exact q_same' (rt (s_l1Has xs _ _ _ HR.out (by omega)) H1) | exact q_same (rt (s_l1Has xs _ _ _ HR.out (by omega)) H2) | exact q_same' (rt (s_l1Has xs _ _ _ HR.out (by omega)) H2)))
      all_goals first
        | (have HN := hd (selN_no HT.out)
           go_wp2
           go_roundw
           case rel => exact ⟨k + 1, by omega, by go_num, by rw [HN.out]; exact HO.out.ext (ext_drewN _ _), HB.out.drewN _⟩
           case measure => simp [intOf]; omega)
        | (have HY := hd (selN_yes HT.out)
           have HO2 := hd (HO.out.ext (ext_drewN wr nq))
           go_wp2_with (at_builtin; refine appI _ HO2.out rfl _ _ rfl _ (by rfl) (by rfl) (by omega) hxs ?_; intro v' w1 ho1 hg1 _)
           go_roundw
           case rel => exact ⟨k + 1, by omega, by go_num, by rw [HY.out]; exact ho1, ext_appB (HB.out.drewN _) hg1 HO2.out⟩
           case measure => simp [intOf]; omega)
    · go_wp2
      go_ret
      obtain rfl : k = es.length := by omega
      exact ⟨_, rfl, own_rebase HO.out (by omega), HX.out⟩
set_option maxRecDepth 100000 in
set_option maxHeartbeats 1600000 in
theorem i_crossing (g : Chg) (gv : Value) (xs : List Int) (v : Value) (w : World) (h : RdC w gv g) (hl : g.es.length ≤ 1048576) (hv : RdI w v xs) (hlx : xs.length ≤ 1048576) :
    Calls Try.prog 79 #[gv, v] w (RetI w 3 (cutL g xs)) := by
  obtain ⟨ve, vc, rfl, hE, -⟩ := h
  obtain ⟨A, c, rfl, h1, h2, ha⟩ := hE.form
  have HV := hd hv
  clear hE hv
  unfold cutL
  generalize g.es = es at *
  go_enter Try.func79, Try.ntmps79
  go_wp2
  go_loopw [11, 6, 7, 5] (fun i _ _ v' wr => ∃ k : Nat, k ≤ es.length ∧ i = .int .i64 k ∧ OwnI wr (w.heap.size + 1) 3 v' (selN (crB es xs) k) ∧ Ext (w.alloc (.cells #[.int .i64 g.n, .slice A es.length c, vc] 40)) wr) (fun i _ _ _ _ => es.length - (intOf i).toNat)
  case atStart => exact ⟨0, by omega, rfl, ownI_nil _ _ _, Ext.refl _⟩
  case round =>
    obtain ⟨k, hk, rfl, ho, hx⟩ := hrel
    have HX := hd hx.box
    have hxs : w.heap.size + 1 ≤ wr.heap.size := by have := hx.size; simpa using this
    have hal := selN_len (crB es xs) k
    by_cases hlt : k < es.length
    · obtain ⟨a, rfl, hc0, hc1⟩ := RdP.at_ ha hlt
      have c0 := HX.out.cell hc0
      have c1 := HX.out.cell hc1
      have HT := hd (crB_of (xs := xs) hlt)
      clear hc0 hc1
      generalize es[k] = e at *
      obtain ⟨x, y⟩ := e
      have HB := hd (hx.alloc (.cells #[.int .i64 x, .int .i64 y] 119))
      have HO := hd (OwnI.ext ho (Ext.new wr (.cells #[.int .i64 x, .int .i64 y] 119)))
      have HR := hd (HV.out.ext HB.out.box)
      clear ho hx
      dsimp only at HT
      obtain ⟨b1, hb1⟩ : ∃ b, hasI xs x = b := ⟨_, rfl⟩
      obtain ⟨b2, hb2⟩ : ∃ b, hasI xs y = b := ⟨_, rfl⟩
      rw [hb1, hb2] at HT
      have H1 := hd hb1
      have H2 := hd hb2
      clear hb1 hb2
      cases b1 <;> cases b2
      all_goals
        go_wp2_with fail
        go_quiet ((go_at_call 96; first | exact q_same (rt (slices_Contains xs _ _ _ HR.out (by omega)) H1) | exact q_same' (rt (slices_Contains xs _ _ _ HR.out (by omega)) H1) | exact q_same (rt (slices_Contains xs _ _ _ HR.out (by omega)) H2) | exact q_same' (rt (slices_Contains xs _ _ _ HR.out (by omega)) H2)))
      all_goals first
        | (have HN := hd (selN_no HT.out)
           go_wp2
           go_roundw
           case rel => exact ⟨k + 1, by omega, by go_num, by rw [HN.out]; exact HO.out.ext (ext_drewN _ _), HB.out.drewN _⟩
           case measure => simp [intOf]; omega)
        | (have HY := hd (selN_yes HT.out)
           have HO2 := hd (HO.out.ext (ext_drewN (wr.alloc (.cells #[.int .i64 x, .int .i64 y] 119)) nq))
           go_wp2_with (at_builtin; refine appIn _ HO2.out rfl _ _ rfl _ (by rfl) (by rfl) (by simp) (by omega) (by simp; omega) ?_; intro v' w1 ho1 hg1 _)
           go_roundw
           case rel => exact ⟨k + 1, by omega, by go_num, by rw [HY.out]; exact ho1, ext_appB (HB.out.drewN _) hg1 HO2.out⟩
           case measure => simp [intOf]; omega)
    · go_wp2
      go_ret
      obtain rfl : k = es.length := by omega
      exact ⟨_, rfl, own_rebase ho (by omega), HX.out⟩
def someB (g : Chg) (xs : List Int) : Bool := goodC g && risingB 0 (g.n - 1) xs
set_option maxRecDepth 100000 in
set_option maxHeartbeats 800000 in
theorem s_l27Some (g : Chg) (gv : Value) (xs : List Int) (v : Value) (w : World) (h : RdC w gv g) (hv : RdI w v xs) (hlx : xs.length ≤ 1048576) :
    Calls Try.prog 76 #[gv, v] w (RetX w (.bool (someB g xs))) := by
  have HG := hd h
  have HV := hd hv
  obtain ⟨A, c, A', c', rfl⟩ := h.form
  clear h hv
  obtain ⟨q, hq⟩ : ∃ q, goodC g = q := ⟨_, rfl⟩
  have HQ := hd hq
  have HGI : Hid (q = true → 1 ≤ g.n ∧ g.n ≤ 8) := hd fun e => by have := goodC_inv (hq.trans e); omega
  clear hq
  go_enter Try.func76, Try.ntmps76
  go_wp2_with fail
  refine (s_l27Good g _ _ (HG.out.ext (Ext.new _ _))).mono ?_
  rw [HQ.out]
  rintro e w1 ⟨rfl, hx1⟩
  obtain ⟨k0, k1, k2⟩ := blk3 (hx1.heap (blk_new (w := w) (.cells #[.int .i64 g.n, .slice A g.es.length c, .slice A' g.cs.length c'] 40) rfl))
  cases q
  · go_wp2
    go_ret
    exact RetX.mk (by unfold someB; rw [HQ.out]; rfl) hx1.box
  · obtain ⟨n1, n2⟩ := HGI.out rfl
    go_wp2_with fail
    refine (s_l1Rising xs v _ _ _ (HV.out.ext hx1.box) (by omega)).mono ?_
    rintro e w2 ⟨rfl, m, rfl⟩
    go_wp2
    go_ret
    exact RetX.mk (by unfold someB; rw [HQ.out]; rfl) (hx1.box.drewN _)
set_option maxRecDepth 100000 in
set_option maxHeartbeats 1600000 in
theorem i_verticesOk (g : Chg) (gv : Value) (xs : List Int) (v : Value) (w : World) (h : RdC w gv g) (h1 : 1 ≤ g.n) (h2 : g.n ≤ 8) (hv : RdI w v xs) (hlx : xs.length ≤ 1048576) :
    Calls Try.prog 78 #[gv, v] w (RetX w (.bool (risingB 0 (g.n - 1) xs))) := by
  obtain ⟨A, c, A', c', rfl⟩ := h.form
  obtain ⟨A2, c2, rfl, h3, h4, ha⟩ := hv.form
  clear h hv
  go_enter Try.func78, Try.ntmps78
  go_wp2
  go_loopw [9, 5, 6] (fun i _ _ wr => ∃ k : Nat, k ≤ xs.length ∧ i = .int .i64 k ∧ Hid (risingB 0 (g.n - 1) xs = risingG 0 (g.n - 1) (if k = 0 then none else xs[k - 1]?) (xs.drop k)) ∧ Ext (w.alloc (.cells #[.int .i64 g.n, .slice A g.es.length c, .slice A' g.cs.length c'] 40)) wr) (fun i _ _ _ => xs.length - (intOf i).toNat)
  case atStart => exact ⟨0, by omega, rfl, hd rfl, Ext.refl _⟩
  case round =>
    obtain ⟨k, hk, rfl, HR, hx⟩ := hrel
    have HX := hd hx
    obtain ⟨k0, k1, k2⟩ := blk3 (hx.heap (blk_new (w := w) (.cells #[.int .i64 g.n, .slice A g.es.length c, .slice A' g.cs.length c'] 40) rfl))
    clear hx
    by_cases hlt : k < xs.length
    · obtain ⟨a, rfl, hc0⟩ := RdI.at_ ha hlt
      have hc := HX.out.box.cell hc0
      rw [drop_cons hlt] at HR
      have HXX : Hid (xs[k]? = some xs[k]) := hd (List.getElem?_eq_getElem hlt)
      clear hc0
      generalize xs[k] = y at *
      obtain ⟨b, hb⟩ : ∃ b, inB y 0 (g.n - 1) = b := ⟨_, rfl⟩
      have HB := hd hb
      clear hb
      rcases Nat.eq_zero_or_pos k with rfl | hpos
      · rw [Addr.add_zero'] at hc
        cases b
        all_goals
          go_wp2_with fail
          refine (i_isVertex g y _ _ _ _ _ HB.out h1 h2).mono ?_
          rintro e w2 ⟨rfl, hx2⟩
          go_wp2
        · go_ret
          exact RetX.mk (by rw [HR.out]; simp [risingG, HB.out]) (HX.out.box.trans hx2)
        · go_roundw
          case rel => exact ⟨1, by omega, by go_num, hd (by rw [HR.out]; simp [risingG, HB.out]; rw [HXX.out]), HX.out.trans hx2⟩
          case measure => simp [intOf]; omega
      · obtain ⟨a2, ha2, hcp0⟩ := RdI.at_ ha (k := k - 1) (by omega)
        cases ha2
        have HP : Hid (xs[k - 1]? = some (xs[k - 1]'(by omega))) := hd (List.getElem?_eq_getElem (by omega))
        generalize xs[k - 1]'(by omega) = p at *
        have e4 : (0 : Int) ≤ (k : Int) - 1 := by omega
        have e5 : (k : Int) - 1 < (xs.length : Int) := by omega
        have HCP := hd hcp0
        have HK : Hid (k ≠ 0) := hd (by omega)
        clear hcp0
        by_cases hp : p < y <;> cases b
        all_goals
          go_wp2_with fail
          refine (i_isVertex g y _ _ _ _ _ HB.out h1 h2).mono ?_
          rintro e w2 ⟨rfl, hx2⟩
          have hc2 := (HX.out.box.trans hx2).cell HCP.out
          go_wp2
        all_goals first
          | (go_ret
             exact RetX.mk (by rw [HR.out, if_neg HK.out, HP.out]; simp [risingG, HB.out]; try (intro h; omega)) (HX.out.box.trans hx2))
          | (go_roundw
             case rel => exact ⟨k + 1, by omega, by go_num, hd (by rw [HR.out, if_neg HK.out, HP.out, if_neg (by omega), Nat.add_sub_cancel, HXX.out]; simp [risingG, HB.out, hp]), HX.out.trans hx2⟩
             case measure => simp [intOf]; omega)
    · go_wp2
      go_ret
      exact RetX.mk (by rw [HR.out, List.drop_eq_nil_of_le (by omega)]; unfold risingG; rfl) HX.out.box
def cutSizeN (g : Chg) (xs : List Int) : Int := if someB g xs then ((cutL g xs).length : Int) else 0
set_option maxRecDepth 100000 in
set_option maxHeartbeats 800000 in
theorem s_CutSize (g : Chg) (gv : Value) (xs : List Int) (v : Value) (w : World) (h : RdC w gv g) (b : Bd_Charged g) (_ : I64_Charged g) (hv : RdI w v xs) (bx : Bd_IntS xs) (_ : I64_IntS xs) :
    Calls Try.prog 31 #[gv, v] w (RetX w (.tuple #[.int .i64 (cutSizeN g xs), .bool (someB g xs)])) := by
  have HG := hd h
  have HB := hd b
  have HV := hd hv
  have HBX := hd bx
  obtain ⟨A, c, A', c', rfl⟩ := h.form
  clear h b hv bx
  obtain ⟨q, hq⟩ : ∃ q, someB g xs = q := ⟨_, rfl⟩
  have HQ := hd hq
  clear hq
  go_enter Try.func31, Try.ntmps31
  go_wp2_with fail
  refine (s_l27Some g _ xs _ _ (HG.out.ext (Ext.new _ _)) (HV.out.ext (Ext.new _ _)) HBX.out).mono ?_
  rw [HQ.out]
  rintro e w1 ⟨rfl, hx1⟩
  obtain ⟨k0, k1, k2⟩ := blk3 (hx1.heap (blk_new (w := w) (.cells #[.int .i64 g.n, .slice A g.es.length c, .slice A' g.cs.length c'] 40) rfl))
  cases q
  · go_wp2
    go_ret2
    exact RetX.mk (by unfold cutSizeN; rw [HQ.out]; rfl) hx1.box
  · go_wp2_with fail
    refine (s_l27Cut g _ xs _ _ (HG.out.ext hx1.box) HB.out.1 (HV.out.ext hx1.box) HBX.out).mono ?_
    rintro e w2 ⟨u, rfl, hu, hx2⟩
    obtain ⟨A2, c2, rfl, -⟩ := hu.form
    go_wp2
    go_ret2
    exact RetX.mk (by unfold cutSizeN; rw [HQ.out]; rfl) (hx1.box.trans hx2)
set_option maxRecDepth 100000 in
set_option maxHeartbeats 1600000 in
theorem i_CutSize (g : Chg) (gv : Value) (xs : List Int) (v : Value) (w : World) (h : RdC w gv g) (b : Bd_Charged g) (_ : I64_Charged g) (hv : RdI w v xs) (bx : Bd_IntS xs) (_ : I64_IntS xs) :
    Calls Try.prog 32 #[gv, v] w (RetX w (.tuple #[.int .i64 (cutSizeN g xs), .bool (someB g xs)])) := by
  have HG := hd h
  have HB := hd b
  have HV := hd hv
  have HBX := hd bx
  obtain ⟨A, c, A', c', rfl⟩ := h.form
  clear h b hv bx
  obtain ⟨q, hq⟩ : ∃ q, goodC g = q := ⟨_, rfl⟩
  obtain ⟨r, hr⟩ : ∃ r, risingB 0 (g.n - 1) xs = r := ⟨_, rfl⟩
  have HQ := hd hq
  have HR := hd hr
  have HGI : Hid (q = true → 1 ≤ g.n ∧ g.n ≤ 8) := hd fun e => by have := goodC_inv (hq.trans e); omega
  clear hq hr
  go_enter Try.func32, Try.ntmps32
  go_wp2_with fail
  refine (i_IsCharged g _ _ (HG.out.ext (Ext.new _ _))).mono ?_
  rw [HQ.out]
  rintro e w1 ⟨rfl, hx1⟩
  obtain ⟨k0, k1, k2⟩ := blk3 (hx1.heap (blk_new (w := w) (.cells #[.int .i64 g.n, .slice A g.es.length c, .slice A' g.cs.length c'] 40) rfl))
  cases q
  · go_wp2
    go_ret2
    exact RetX.mk (by unfold cutSizeN someB; rw [HQ.out]; rfl) hx1.box
  · obtain ⟨n1, n2⟩ := HGI.out rfl
    go_wp2_with fail
    refine (i_verticesOk g _ xs _ _ (HG.out.ext hx1.box) n1 n2 (HV.out.ext hx1.box) HBX.out).mono ?_
    rw [HR.out]
    rintro e w2 ⟨rfl, hx2⟩
    have XX := hd (hx1.box.trans hx2)
    clear k0 k1 k2
    obtain ⟨k0, k1, k2⟩ := blk3 ((hx1.trans hx2).heap (blk_new (w := w) (.cells #[.int .i64 g.n, .slice A g.es.length c, .slice A' g.cs.length c'] 40) rfl))
    cases r
    · go_wp2
      go_ret2
      exact RetX.mk (by unfold cutSizeN someB; rw [HQ.out, HR.out]; rfl) XX.out
    · go_wp2_with fail
      refine (i_crossing g _ xs _ _ (HG.out.ext XX.out) HB.out.1 (HV.out.ext XX.out) HBX.out).mono ?_
      rintro e w3 ⟨u, rfl, hu, hx3⟩
      obtain ⟨A2, c2, rfl, -⟩ := hu.form
      go_wp2
      go_ret2
      exact RetX.mk (by unfold cutSizeN someB; rw [HQ.out, HR.out]; rfl) (XX.out.trans hx3)
theorem rising_mem {lo hi : Int} : ∀ (xs : List Int) (o : Option Int), risingG lo hi o xs = true → ∀ x ∈ xs, lo ≤ x ∧ x ≤ hi
  | [], _, _, x, hx => by simp at hx
  | y :: r, o, h, x, hx => by
    have key : inB y lo hi = true ∧ risingG lo hi (some y) r = true := by
      cases o with
      | none =>
        unfold risingG at h
        split at h
        · rename_i h1; exact ⟨h1, h⟩
        · cases h
      | some p =>
        unfold risingG at h
        split at h
        · rename_i h1
          split at h
          · exact ⟨h1, h⟩
          · cases h
        · cases h
    rcases List.mem_cons.1 hx with rfl | hx
    · exact inB_iff.1 key.1
    · exact rising_mem r _ key.2 x hx
theorem rising_len1 (lo hi : Int) (xs : List Int) : ∀ p : Int, risingG lo hi (some p) xs = true → lo - 1 ≤ p → (xs.length : Int) ≤ hi - p ∨ xs = [] := by
  induction xs with
  | nil => intro p _ _; exact .inr rfl
  | cons x r ih =>
    intro p h hp
    unfold risingG at h
    split at h
    · rename_i hb
      rw [inB_iff] at hb
      split at h
      · rename_i hpx
        rcases ih x h (by omega) with h2 | rfl
        · simp; omega
        · simp; omega
      · cases h
    · cases h
theorem rising_bd {lo hi : Int} {xs : List Int} (h : risingB lo hi xs = true) : (xs.length : Int) ≤ hi - lo + 1 ∨ xs = [] := by
  cases xs with
  | nil => exact .inr rfl
  | cons x r =>
    left
    unfold risingB risingG at h
    split at h
    · rename_i hb
      rw [inB_iff] at hb
      rcases rising_len1 lo hi r x h (by omega) with h2 | rfl
      · simp; omega
      · simp; omega
    · cases h
theorem someB_idx {g : Chg} {xs : List Int} (h : someB g xs = true) : Idx g.cs.length xs ∧ xs.length ≤ 8 ∧ (∀ c ∈ g.cs, 0 ≤ c ∧ c ≤ 1) ∧ g.es.length ≤ 12 := by
  unfold someB at h
  rw [Bool.and_eq_true] at h
  obtain ⟨h1, h2, h3, h4, h5, h6, h7⟩ := goodC_inv h.1
  refine ⟨fun x hx => ?_, ?_, h6, h3⟩
  · have := rising_mem xs none h.2 x hx
    obtain ⟨j, rfl⟩ := Int.eq_ofNat_of_zero_le this.1
    exact ⟨j, rfl, by omega⟩
  · rcases rising_bd h.2 with h' | rfl
    · omega
    · simp
/-- The charges of the vertices, added to s. -/
def sumAt (cs : List Int) : List Int → Int → Int
  | [], s => s
  | x :: r, s => sumAt cs r (s + cs[x.toNat]?.getD 0)
set_option maxRecDepth 100000 in
set_option maxHeartbeats 800000 in
theorem s_l27Sum (g : Chg) (gv : Value) (xs : List Int) (v : Value) (w : World) (h : RdC w gv g) (hv : RdI w v xs) (hi : Hid (Idx g.cs.length xs)) (hl : xs.length ≤ 8) (hc : Hid (∀ c ∈ g.cs, 0 ≤ c ∧ c ≤ 1)) :
    Calls Try.prog 86 #[gv, v] w (RetX w (.int .i64 (sumAt g.cs xs 0))) := by
  obtain ⟨ve, vc, rfl, -, hC⟩ := h
  obtain ⟨A', c', rfl, h1', h2', ha'⟩ := hC.form
  obtain ⟨A2, c2, rfl, h3, h4, ha⟩ := hv.form
  clear hC hv
  generalize g.cs = cs at *
  go_enter Try.func86, Try.ntmps86
  go_wp2
  go_loopw [6, 5] (fun i sv wr => ∃ (k : Nat) (s : Int), k ≤ xs.length ∧ i = .int .i64 k ∧ sv = .int .i64 s ∧ 0 ≤ s ∧ s ≤ k ∧ Hid (sumAt cs xs 0 = sumAt cs (xs.drop k) s) ∧ Ext (w.alloc (.cells #[.int .i64 g.n, ve, .slice A' cs.length c'] 40)) wr) (fun i _ _ => xs.length - (intOf i).toNat)
  case atStart => exact ⟨0, 0, by omega, rfl, rfl, by omega, by omega, hd rfl, Ext.refl _⟩
  case round =>
    obtain ⟨k, s, hk, rfl, rfl, hs0, hs1, HR, hx⟩ := hrel
    have HX := hd hx
    obtain ⟨k0, k1, k2⟩ := blk3 (hx.heap (blk_new (w := w) (.cells #[.int .i64 g.n, ve, .slice A' cs.length c'] 40) rfl))
    clear hx
    by_cases hlt : k < xs.length
    · obtain ⟨a, rfl, hc0⟩ := RdI.at_ ha hlt
      rw [drop_cons hlt] at HR
      obtain ⟨j, hj, hjn⟩ := hi.out.get hlt
      rw [hj] at hc0 HR
      obtain ⟨a', rfl, hc1⟩ := RdI.at_ ha' hjn
      have hce := hc.out _ (List.getElem_mem hjn)
      have HG : Hid (cs[j]?.getD 0 = cs[j]) := hd (by rw [List.getElem?_eq_getElem hjn]; rfl)
      clear hj
      have c0 := HX.out.box.cell hc0
      have c1 := HX.out.box.cell hc1
      clear hc0 hc1
      generalize cs[j] = y at *
      have e1 : (0 : Int) ≤ (k : Int) := by omega
      have e2 : (k : Int) < (xs.length : Int) := by omega
      have e3 : (0 : Int) ≤ (j : Int) := by omega
      have e4 : (j : Int) < (cs.length : Int) := by omega
      obtain ⟨hy0, hy1⟩ := hce
      have hwr : IntKind.i64.wrap (s + y) = s + y := IntWalk.i64_in _ (by omega)
      go_wp2_with fail
      go_quiet (fail)
      clear hwr
      go_wp2
      go_roundw
      case rel => exact ⟨k + 1, s + y, by omega, by go_num, rfl, by omega, by omega, hd (by rw [HR.out, sumAt, Int.toNat_natCast, HG.out]), HX.out.drewN _⟩
      case measure => simp [intOf]; omega
    · go_wp2
      go_ret
      exact RetX.mk (by rw [HR.out, List.drop_eq_nil_of_le (by omega)]; rfl) HX.out.box
end Go.Proofs.Ytpljmlkinjhigaa
