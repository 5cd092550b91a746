/-
  The program's FreeChoices. Conditions: sizes up to 2^20.
-/
import Derived.Test.YthiflbcodbigbaaFreeS
namespace Go.Proofs.Ythiflbcodbigbaa
open Go.RowKit
theorem enters_satisfiable1 : Enters 133 := fun args w => by kernel_rfl
/-- What goes on from bits to bits while a model is looked for. -/
def SatI (w : World) (_n : Nat) (cs : List (List Int)) (b : Nat) (w' : World) : Prop :=
  w'.heap[w.heap.size]? = some (.cells #[.bool false] 4) ∧ (∀ j, j < b → allT j cs = false) ∧ Ext w w'
def SatF (w : World) (n : Nat) (cs : List (List Int)) (w' : World) : Prop :=
  w'.heap[w.heap.size]? = some (.cells #[.bool (satB n cs)] 4) ∧ Ext w w'
theorem sat_yes {n b : Nat} {cs : List (List Int)} (hb : b < 2 ^ n) (h : allT b cs = true) : satB n cs = true := List.any_eq_true.2 ⟨b, List.mem_range.2 hb, h⟩
theorem sat_no {n : Nat} {cs : List (List Int)} (h : ∀ j, j < 2 ^ n → allT j cs = false) : satB n cs = false := by
  unfold satB
  rw [List.any_eq_false]
  intro x hx
  rw [h x (List.mem_range.1 hx)]
  simp
theorem blk1_set {w : World} {b : Nat} {x u : Value} {e : TypeId} (h : w.heap[b]? = some (.cells #[x] e)) : (w.setCell ⟨b, 0, none⟩ u).heap[b]? = some (.cells #[u] e) := by
  simp [World.setCell, Array.getElem?_modify, h]
theorem blk1f {w : World} {b : Nat} {x : Value} {e : TypeId} (h : w.heap[b]? = some (.cells #[x] e)) : w.frozen? ⟨b, 0, none⟩ = false := by simp [World.frozen?, h]
theorem i_satisfiable1 (b : Int) (g : Nat) (w : World) (h : w.heap[g]? = some (.cells #[.bool false] 4)) :
    Calls Try.prog 133 #[.int .i64 b, .pointer (some ⟨g, 0, none⟩)] w (fun e w' => e = .returned (.bool false) ∧ w' = w.setCell ⟨g, 0, none⟩ (.bool true)) := by
  have c0 := blk1 h
  have f0 := blk1f h
  go_enter Try.func133, Try.ntmps133
  go_wp2
  go_ret
  exact ⟨rfl, rfl⟩
set_option maxRecDepth 100000 in
set_option maxHeartbeats 1600000 in
theorem i_satisfiable (n : Nat) (cs : List (List Int)) (cv : Value) (w : World) (hC : RdSS w cv cs) (hn : n ≤ 12) (hl : cs.length ≤ 1048576) (hle : Hid (∀ c ∈ cs, c.length ≤ 1073741824)) (hlit : Hid (∀ c ∈ cs, ∀ x ∈ c, -12 ≤ x ∧ x ≤ 12 ∧ x ≠ 0)) :
    Calls Try.prog 89 #[.int .i64 (n : Int), cv] w (RetX w (.bool (satB n cs))) := by
  have HC := hd hC
  obtain ⟨A, c, rfl, -⟩ := hC.form
  clear hC
  have HB := hd (blk_new (w := w) (.cells #[.bool false] 4) rfl)
  have X0 : Hid (Ext w (w.alloc (.cells #[.bool false] 4))) := hd (Ext.new _ _)
  go_enter Try.func89, Try.ntmps89
  go_wp2_with fail
  refine (i_models n cs _ 133 #[.pointer (some ⟨w.heap.size, 0, none⟩)] _ w.heap.size (SatI w n cs) (SatF w n cs) hn (by omega) hle hlit ⟨_, _, rfl⟩ enters_satisfiable1 (hd fun b w' w'' hI hx => ?_) (hd fun b w' hI => ?_) ?_ (by simp) (hd fun b w' _ hq hI => ?_) (hd fun b w' hb hq hsz hI => ?_) (hd fun w' hI => ?_)).mono ?_
  · exact ⟨hx.heap hI.1, hI.2.1, hI.2.2.trans hx⟩
  · exact HC.out.ext hI.2.2
  · exact ⟨HB.out, fun j hj => by omega, X0.out⟩
  · exact ⟨hI.1, all_snoc hI.2.1 hq, hI.2.2⟩
  · refine (i_satisfiable1 _ w.heap.size w' hI.1).mono ?_
    rintro e w'' ⟨rfl, rfl⟩
    refine ⟨false, rfl, fun h => (by cases h), fun _ => ⟨by rw [sat_yes hb hq]; exact blk1_set hI.1, hI.2.2.setCell (Nat.le_refl _) _⟩, fun k hk hk' => ?_⟩
    exact Below.heap_setCell w' ⟨w.heap.size, 0, none⟩ _ k (fun e => by simp at hk e; omega)
  · exact ⟨by rw [sat_no hI.2.1]; exact hI.1, hI.2.2⟩
  · rintro e w3 ⟨rfl, hI⟩
    obtain ⟨hx, hx3⟩ := hI
    have HXX := hd hx3
    have e0 := blk1 hx
    clear hx hx3
    generalize satB n cs = r at *
    go_wp2
    go_ret
    exact RetX.mk rfl HXX.out
set_option maxRecDepth 100000 in
set_option maxHeartbeats 3200000 in
theorem i_FreeChoices (f : Cnf) (v : Value) (ki : Int) (w : World) (h : Rd_Cnf w v f) (b : Bd_Cnf f) (_ : I64_Cnf f) (_ : I64 ki) :
    Calls Try.prog 35 #[v, .int .i64 ki] w (RetX w (.tuple #[.int .i64 (freeN f ki), .bool (freeB f ki)])) := by
  have hR := h
  obtain ⟨A, c, rfl⟩ := h.form
  have X0 : Hid (Ext w (w.alloc (.cells #[.int .i64 f.n, .slice A f.cs.length c] 28))) := hd (Ext.new _ _)
  have HV := hd (h.ext X0.out)
  have HB := hd b
  have HB0 := hd (blk_new (w := w) (.cells #[.int .i64 f.n, .slice A f.cs.length c] 28) rfl)
  have HCS : Hid (RdSS w (.slice A f.cs.length c) f.cs) := hd (by obtain ⟨vc, h1, h2⟩ := hR; injection h1 with h1; simp at h1; rw [h1]; exact h2)
  have hl := b.1
  clear h b hR
  obtain ⟨q, hq⟩ : ∃ q, sharedB f ki = q := ⟨_, rfl⟩
  have HQ := hd hq
  cases q
  · have HF : Hid (freeB f ki = false ∧ freeN f ki = 0) := hd (by
      have e : freeB f ki = false := by unfold freeB; rw [hq]; rfl
      exact ⟨e, by unfold freeN; rw [e]; rfl⟩)
    clear hq
    go_enter Try.func35, Try.ntmps35
    go_wp2_with fail
    refine (i_sharedSplit_no f _ ki _ HV.out HB.out HQ.out).mono ?_
    rintro e w1 ⟨p, rfl, hx1⟩
    have X1 := hd (X0.out.trans hx1)
    clear hx1
    go_wp2
    go_ret2
    exact RetX.mk (by rw [HF.out.1, HF.out.2]; rfl) X1.out
  · obtain ⟨hg, j, rfl, hj, h6, hsv, hwv⟩ := shared_inv hq
    have hsat := sat_conf hg (k := j)
    rw [← hsv, ← hwv] at hsat
    have HFB : Hid (freeB f j = !confB (strongV f j) (weakV f j)) := hd (by unfold freeB; rw [hq]; rfl)
    have HFN : Hid (freeN f j = if freeB f j then (cntF (strongV f j) (weakV f j) (strongV f j).length : Int) else 0) := hd rfl
    have HSAT := hd hsat
    have hlw := len_weak (f := f) (k := (j : Int))
    have hls := strongV_bd f j
    unfold Bd_BoolS at hls
    have HCS' : Hid (∀ w' p, RdSp w' p f j (bothV f j f.n.toNat) → Calls Try.prog 91 #[p] w' (RetB w' 4 (strongV f j))) := hd fun w' p hp => by rw [hsv]; exact i_strongest f j p w' hp hg hj h6
    have HCW' : Hid (∀ w' p, RdSp w' p f j (bothV f j f.n.toNat) → Calls Try.prog 90 #[p] w' (RetB w' 4 (weakV f j))) := hd fun w' p hp => by rw [hwv]; exact i_weakest f j p w' hp hg hj h6
    obtain ⟨hn0, hn12, -, -⟩ := good_inv hg
    have HLE : Hid (∀ c ∈ f.cs, c.length ≤ 1073741824) := hd fun c hc => by have := good_len hg c hc; omega
    have HLI : Hid (∀ c ∈ f.cs, ∀ x ∈ c, -12 ≤ x ∧ x ≤ 12 ∧ x ≠ 0) := hd fun c hc x hx => ⟨(good_lit hg c hc x hx).1, (good_lit hg c hc x hx).2, good_nz hg c hc x hx⟩
    have HSATC : Hid (∀ w', RdSS w' (.slice A f.cs.length c) f.cs → Calls Try.prog 89 #[.int .i64 f.n, .slice A f.cs.length c] w' (RetX w' (.bool (confB (strongV f j) (weakV f j))))) := hd fun w' hw => by
      rw [← hsat]
      have := i_satisfiable f.n.toNat f.cs (.slice A f.cs.length c) w' hw (by omega) hl HLE HLI
      rwa [Int.toNat_of_nonneg hn0] at this
    have HSS : Hid (∀ w', Rd_Cnf w' (.agg #[.int .i64 f.n, .slice A f.cs.length c]) f → Calls Try.prog 88 #[.agg #[.int .i64 f.n, .slice A f.cs.length c], .int .i64 j] w' (fun e w'' => ∃ p, e = .returned (.tuple #[p, .bool true]) ∧ RdSp w'' p f j (bothV f j f.n.toNat) ∧ Ext w' w'')) := hd fun w' hx => i_sharedSplit_yes f _ j w' hx HB.out hg hj h6
    generalize freeN f j = FN at *
    generalize freeB f j = FB at *
    generalize strongV f j = SV at *
    generalize weakV f j = WV at *
    have HLW := hd hlw
    obtain ⟨z, hz⟩ : ∃ z, confB SV WV = z := ⟨_, rfl⟩
    rw [hz] at HFB HSATC
    have HCONF := hd hz
    clear hz hg hj hq h6 hsv hwv hsat hlw HSAT HLE HLI hn0 hn12
    go_enter Try.func35, Try.ntmps35
    go_wp2_with fail
    refine (HSS.out _ HV.out).mono ?_
    rintro e w1 ⟨p, rfl, hs, hx1⟩
    have X1 := hd (X0.out.trans hx1)
    have HS := hd hs
    obtain ⟨c0, c1⟩ := blk2 (hx1.heap HB0.out)
    clear hx1 hs
    go_wp2_with fail
    refine (HSATC.out _ (HCS.out.ext X1.out)).mono ?_
    rintro e w2 ⟨rfl, hx2⟩
    have X2 := hd (X1.out.trans hx2)
    have HS2 := hd (HS.out.ext hx2)
    clear hx2 HS c0 c1 X1
    cases z
    · go_wp2_with fail
      refine (HCW'.out _ _ HS2.out).mono ?_
      rintro e w3 ⟨u3, rfl, hu3, hx3⟩
      have X3 := hd (X2.out.trans hx3)
      have HS3 := hd (HS2.out.ext hx3)
      have HW3 : Hid (RdB w3 u3 WV) := hd (OwnB.rd hu3)
      clear hx3 hu3 X2 HS2
      go_wp2_with fail
      refine (HCS'.out _ _ HS3.out).mono ?_
      rintro e w4 ⟨u4, rfl, hu4, hx4⟩
      have X4 := hd (X3.out.trans hx4)
      have HW4 := hd (RdB.ext HW3.out hx4)
      have HU4 : Hid (RdB w4 u4 SV) := hd (OwnB.rd hu4)
      obtain ⟨A1, k1', rfl, m1, n1, hra⟩ := HU4.out.form
      obtain ⟨A2, k2', rfl, m2, n2, hrb⟩ := HW4.out.form
      clear hx4 hu4 HW3 HW4 HU4 X3 HS3 HCW' HCS' HSATC HSS
      go_wp2
      go_loop [32, 8, 10, 11] (fun i x _ _ => ∃ j : Nat, j ≤ SV.length ∧ i = .int .i64 j ∧ x = .int .i64 ((cntF SV WV j : Nat) : Int)) (fun i _ _ _ => SV.length - (intOf i).toNat)
      case atStart => exact ⟨0, by omega, rfl, rfl⟩
      case round =>
        obtain ⟨j, hj, rfl, rfl⟩ := hrel
        have hcl := cntF_le SV WV j
        by_cases hlt : j < SV.length
        · obtain ⟨a1, rfl, hc1⟩ := RdB.at_ hra hlt
          have hlt2 : j < WV.length := by rw [HLW.out]; exact hlt
          obtain ⟨a2, rfl, hc2⟩ := RdB.at_ hrb hlt2
          have HG1 := hd (getD_b hlt)
          have HG2 := hd (getD_b hlt2)
          generalize SV[j] = y at *
          generalize WV[j] = z at *
          cases y <;> cases z
          · have HC := hd (cntF_no (by rw [HG1.out, HG2.out]; rfl : (!SV.getD j false && WV.getD j false) = false))
            go_wp2
            go_round
            case rel => exact ⟨j + 1, by omega, by go_num, by rw [HC.out]⟩
            case measure => simp [intOf]; omega
          · have HC := hd (cntF_yes (by rw [HG1.out, HG2.out]; rfl : (!SV.getD j false && WV.getD j false) = true))
            go_wp2
            go_round
            case rel => exact ⟨j + 1, by omega, by go_num, by rw [HC.out]; go_num⟩
            case measure => simp [intOf]; omega
          · have HC := hd (cntF_no (by rw [HG1.out, HG2.out]; rfl : (!SV.getD j false && WV.getD j false) = false))
            go_wp2
            go_round
            case rel => exact ⟨j + 1, by omega, by go_num, by rw [HC.out]⟩
            case measure => simp [intOf]; omega
          · have HC := hd (cntF_no (by rw [HG1.out, HG2.out]; rfl : (!SV.getD j false && WV.getD j false) = false))
            go_wp2
            go_round
            case rel => exact ⟨j + 1, by omega, by go_num, by rw [HC.out]⟩
            case measure => simp [intOf]; omega
        · obtain rfl : j = SV.length := by omega
          go_wp2
          go_ret2
          exact RetX.mk (by rw [HFN.out, HFB.out]; rfl) X4.out
    · go_wp2
      go_ret2
      exact RetX.mk (by rw [HFN.out, HFB.out]; rfl) X2.out
end Go.Proofs.Ythiflbcodbigbaa
