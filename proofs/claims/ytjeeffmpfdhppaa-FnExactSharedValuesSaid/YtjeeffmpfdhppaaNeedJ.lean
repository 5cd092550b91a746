/-
  A circuit's variables, and whether all of them are shared: the program's side. Condition: a valid circuit.
-/
import Derived.Test.YtjeeffmpfdhppaaNeedI
namespace Go.Proofs.Ytjeeffmpfdhppaa
open Go.RowKit
theorem avs_snoc (gs : List Gat) {ns : List Int} {k : Nat} (h : k < ns.length) : avs gs (ns.take (k + 1)) = avs gs (ns.take k) ++ (if (gs.getD ns[k].toNat ⟨0, 0, 0⟩).k = 1 then [(gs.getD ns[k].toNat ⟨0, 0, 0⟩).a] else []) := by
  rw [List.take_succ_eq_append_getElem h, avs_append, avs_cons]
  rfl
set_option maxRecDepth 100000 in
set_option maxHeartbeats 1600000 in
theorem i_circuitVars (n : Int) (gs : List Gat) (v : Value) (w : World) (h : Rd_GateS w v gs) (hg : circB n gs = true) :
    Calls Try.prog 120 #[v] w (RetI w 3 (varsN gs)) := by
  obtain ⟨A, c, rfl, h1, h2, ha⟩ := h.form
  have hl2 := (circ_inv hg).2.1.2
  have HNG := hd (i_neededGates n gs (.slice A gs.length c) w h hg)
  have HM : Hid (∀ z ∈ needL gs, ∃ j : Nat, z = j ∧ j < gs.length) := hd fun z hz => by
    obtain ⟨j, h1, h2, _⟩ := (needL_mem hg z).1 hz
    exact ⟨j, h1, h2⟩
  have hnl := needL_len gs
  have HV : Hid (varsN gs = sortU (avs gs (needL gs))) := hd rfl
  rw [HV.out]
  clear HV h hg
  generalize needL gs = ns at *
  have HAL := hd (fun k => Nat.le_trans (avs_len gs (ns.take k)) (List.length_take_le _ _))
  go_enter Try.func120, Try.ntmps120
  go_wp2_with fail
  refine HNG.out.mono ?_
  rintro e w1 ⟨u, rfl, hu, hx⟩
  have X1 := hd hx
  obtain ⟨A1, c1, rfl, hr1, hr2, hr3⟩ := hu.rd.form
  clear hu hx HNG
  go_wp2
  go_loopw [9, 3, 5] (fun i v _ wr => ∃ k : Nat, k ≤ ns.length ∧ i = .int .i64 k ∧ OwnI wr w.heap.size 3 v (avs gs (ns.take k)) ∧ (∀ g, v.ownBlock = some g → w1.heap.size ≤ g) ∧ Ext w1 wr) (fun i _ _ _ => ns.length - (intOf i).toNat)
  case atStart => exact ⟨0, by omega, rfl, ownI_nil _ _ _, by simp [Value.ownBlock], Ext.refl _⟩
  case round =>
    obtain ⟨k, hk, rfl, ho, hvb, hx⟩ := hrel
    have HO := hd ho
    have HVB := hd hvb
    have HX := hd hx
    clear ho hvb hx
    have hlen : (avs gs (ns.take k)).length ≤ 200 := Nat.le_trans (HAL.out k) (by omega)
    by_cases hlt : k < ns.length
    · obtain ⟨a, rfl, hc0⟩ := RdI.at_ hr3 hlt
      have hcz := HX.out.cell hc0
      obtain ⟨j, hj, hjl⟩ := HM.out _ (List.getElem_mem hlt)
      have HS := hd (avs_snoc gs hlt)
      rw [hj] at hcz HS
      rw [Int.toNat_natCast] at HS
      obtain ⟨a2, rfl, d0, d1, -⟩ := Rd_GateS.at_ ha hjl
      have c0 := (X1.out.trans HX.out).cell d0
      have c1 := (X1.out.trans HX.out).cell d1
      rw [show gs.getD j ⟨0, 0, 0⟩ = gs[j] by simp [List.getD, hjl]] at HS
      clear hc0 hj d0 d1
      generalize gs[j] = g at *
      obtain ⟨x, y, z⟩ := g
      dsimp only at c0 c1 HS
      have hszb : w.heap.size ≤ wr.heap.size := (X1.out.trans HX.out).size
      by_cases hx1 : x = 1
      · subst hx1
        rw [if_pos rfl] at HS
        go_wp2_with (at_builtin; refine appI wr HO.out rfl _ _ rfl _ (by rfl) (by rfl) (by omega) hszb ?_; intro v' w2 ho2 hg2 hvv)
        go_roundw
        case rel => exact ⟨k + 1, by omega, by go_num, by rw [HS.out]; exact ho2, by intro g hg; rcases hvv with h | h <;> rw [h] at hg; exact HVB.out g hg; cases hg; have := HX.out.size; omega, ext_app HX.out hg2 HVB.out⟩
        case measure => simp [intOf]; omega
      · rw [if_neg hx1, List.append_nil] at HS
        have hx1' : (x == 1) = false := by simp [hx1]
        clear hx1
        go_wp2
        go_roundw
        case rel => exact ⟨k + 1, by omega, by go_num, by rw [HS.out]; exact HO.out, HVB.out, HX.out⟩
        case measure => simp [intOf]; omega
    · obtain rfl : k = ns.length := by omega
      rw [List.take_length] at HO hlen
      have XX := hd (X1.out.trans HX.out)
      generalize avs gs ns = L at *
      have HML := hd (List.length_mergeSort L (le := fun x y => decide (x ≤ y)))
      have HSU : Hid (sortU L = Lib.compact (L.mergeSort fun x y => decide (x ≤ y))) := hd rfl
      go_wp2_with fail
      refine (slices_SortI _ _ _ w.heap.size HO.out (by omega)).mono ?_
      rintro e w3 ⟨rfl, ho1, hg1⟩
      have HO1 := hd ho1
      have HX1 := hd (ext_appS XX.out hg1 (ownI_ge HO.out))
      clear ho1 hg1
      go_wp2_with fail
      refine (slices_CompactI _ _ _ w.heap.size HO1.out (by rw [HML.out]; omega)).mono ?_
      rintro e w4 ⟨u, rfl, ho2, hg2, hu2⟩
      go_wp2
      go_ret
      exact ⟨_, rfl, by rw [HSU.out]; exact ho2, ext_appS HX1.out hg2 (ownI_ge HO1.out)⟩
theorem enters_onShared1 : Enters 121 := fun args w => by kernel_rfl
theorem i_onShared1 (f : Cnf) (k : Nat) (sh : List Int) (v : Value) (y : Int) (a : Addr) (w : World) (h : RdSp w v f k sh) (hc : w.cell? a = some v) (hl : sh.length ≤ 1073741824) :
    Calls Try.prog 121 #[.int .i64 y, .pointer (some a)] w (RetX w (.bool (!hasI sh y))) := by
  obtain ⟨b, vc, vs, rfl, hb, -, hr⟩ := h
  obtain ⟨c0, c1, c2, c3⟩ := blk4' hb
  have HR := hd hr
  obtain ⟨A1, cc, rfl, -⟩ := hr.form
  clear hr
  go_enter Try.func121, Try.ntmps121
  go_wp2_with fail
  refine (slices_Contains sh (.slice A1 sh.length cc) y _ HR.out hl).mono ?_
  rintro e w1 ⟨rfl, rfl⟩
  go_wp2
  go_ret
  exact RetX.mk rfl (Ext.refl _)
set_option maxHeartbeats 800000 in
theorem i_onShared (f : Cnf) (k : Nat) (sh : List Int) (v gv : Value) (gs : List Gat) (w : World) (h : RdSp w v f k sh) (hgs : Rd_GateS w gv gs) (hc : circB f.n gs = true) (hl : sh.length ≤ 1073741824) :
    Calls Try.prog 62 #[v, gv] w (RetX w (.bool (plainB sh gs))) := by
  have HS := hd h
  have HG := hd hgs
  have HPL := hd (plain_eq hc sh)
  obtain ⟨A, c, rfl, -⟩ := hgs.form
  have hvl := varsN_len gs
  have hl2 := (circ_inv hc).2.1.2
  have HCV := hd (fun w' h' => i_circuitVars f.n gs (.slice A gs.length c) w' h' hc)
  obtain ⟨b, vc, vs, rfl, hb, -, hr⟩ := h
  have X0 : Hid (Ext w (w.alloc (.cells #[.pointer (some ⟨b, 0, none⟩)] 85))) := hd (Ext.new _ _)
  have HB0 := hd (blk_new (w := w) (.cells #[.pointer (some ⟨b, 0, none⟩)] 85) rfl)
  generalize varsN gs = vsn at *
  clear hgs hc hb hr
  go_enter Try.func62, Try.ntmps62
  go_wp2_with fail
  refine (HCV.out _ (HG.out.ext X0.out)).mono ?_
  rintro e w1 ⟨u, rfl, hu, hx⟩
  have X1 := hd (X0.out.trans hx)
  have HU := hd hu.rd
  have HB1 := hd (hx.heap HB0.out)
  have HANS : Hid (AnsX 121 #[.pointer (some ⟨w.heap.size, 0, none⟩)] (fun y => !hasI sh y) vsn w1) := hd fun x _ w' hx' => i_onShared1 f k sh _ x _ w' (HS.out.ext (X1.out.trans hx')) (blk1 (hx'.heap HB1.out)) hl
  clear hu hx
  go_wp2_with fail
  refine (slices_ContainsFuncX vsn _ _ _ _ _ HU.out (by omega) enters_onShared1 HANS).mono ?_
  rintro e w2 ⟨rfl, hx⟩
  have X2 := hd (X1.out.trans hx)
  clear hx
  go_wp2
  go_ret
  exact RetX.mk (by rw [← HPL.out]; rfl) X2.out
end Go.Proofs.Ytjeeffmpfdhppaa
