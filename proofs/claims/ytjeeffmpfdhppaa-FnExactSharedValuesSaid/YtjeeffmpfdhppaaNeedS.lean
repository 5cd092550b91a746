/-
  The inputs of a gate: both sides; which gates are needed, and whether all their variables are shared: the reference's side. Condition: a valid circuit.
-/
import Derived.Test.YtjeeffmpfdhppaaNeedP
import Derived.Test.YtjeeffmpfdhppaaCircV
import Derived.Test.YtjeeffmpfdhppaaSide2
namespace Go.Proofs.Ytjeeffmpfdhppaa
open Go.RowKit
def inputsL (g : Gat) : List Int := if g.k = 4 then [g.a] else if g.k = 5 ∨ g.k = 6 then [g.a, g.b] else []
theorem mark1_fold (l : List Bool) (g : Gat) : mark1 l g = (inputsL g).foldl setB l := by
  unfold mark1 inputsL
  split
  · rfl
  · split <;> rfl
theorem inputsL_len (g : Gat) : (inputsL g).length ≤ 2 := by
  unfold inputsL
  split
  · simp
  · split <;> simp
theorem inputsL_bd {n : Int} {i : Nat} {g : Gat} (h : gateB n i g = true) : ∀ x ∈ inputsL g, 0 ≤ x ∧ x < i := by
  have hg := gate_inv h
  intro x hx
  unfold inputsL at hx
  split at hx
  · rw [List.mem_singleton] at hx; subst hx; omega
  · split at hx
    · rcases List.mem_cons.1 hx with rfl | hx
      · omega
      · rw [List.mem_singleton] at hx; subst hx; omega
    · cases hx
theorem ownI_lits {W : World} {base b : Nat} {e : TypeId} {xs : List Int} (hb : W.heap.size = b) (h : base ≤ b) (hm : xs.length ≤ 4) : OwnI (W.alloc (.cells (ints xs).toArray e)) base e (.slice (some ⟨b, 0, none⟩) xs.length xs.length) xs := by
  subst hb
  have := own_lit W base e 1 (ints xs).toArray xs.length h (by unfold maxLen; omega) (by simp)
  unfold OwnI
  simpa using this
set_option maxHeartbeats 800000 in
theorem s_l6Inputs (g : Gat) (w : World) : Calls Try.prog 148 #[.agg #[.int .i64 g.k, .int .i64 g.a, .int .i64 g.b]] w (RetI w 3 (inputsL g)) := by
  obtain ⟨k, a, b⟩ := g
  by_cases k4 : k = 4
  · subst k4
    go_enter Try.func148, Try.ntmps148
    go_wp2
    go_ret
    exact ⟨_, rfl, ownI_lits (xs := [a]) (by simp) (by omega) (by simp), (Ext.new _ _).alloc _⟩
  · by_cases k56 : k = 5 ∨ k = 6
    · have e : inputsL ⟨k, a, b⟩ = [a, b] := by unfold inputsL; rw [if_neg k4, if_pos k56]
      rw [e]
      rcases k56 with rfl | rfl
      all_goals
        go_enter Try.func148, Try.ntmps148
        go_wp2
        go_ret
        exact ⟨_, rfl, ownI_lits (xs := [a, b]) (by simp) (by omega) (by simp), (Ext.new _ _).alloc _⟩
    · have e : inputsL ⟨k, a, b⟩ = [] := by unfold inputsL; rw [if_neg k4, if_neg k56]
      rw [e]
      have e5 : ¬ k = 5 := by omega
      have e6 : ¬ k = 6 := by omega
      go_enter Try.func148, Try.ntmps148
      go_wp2
      go_ret
      exact ⟨_, rfl, ownI_lits (xs := []) (by simp) (by omega) (by simp), (Ext.new _ _).alloc _⟩
set_option maxHeartbeats 800000 in
theorem i_inputs (g : Gat) (w : World) : Calls Try.prog 166 #[.agg #[.int .i64 g.k, .int .i64 g.a, .int .i64 g.b]] w (RetI w 3 (inputsL g)) := by
  obtain ⟨k, a, b⟩ := g
  by_cases k4 : k = 4
  · subst k4
    go_enter Try.func166, Try.ntmps166
    go_wp2
    go_ret
    exact ⟨_, rfl, ownI_lits (xs := [a]) (by simp) (by omega) (by simp), (Ext.new _ _).alloc _⟩
  · by_cases k56 : k = 5 ∨ k = 6
    · have e : inputsL ⟨k, a, b⟩ = [a, b] := by unfold inputsL; rw [if_neg k4, if_pos k56]
      rw [e]
      rcases k56 with rfl | rfl
      all_goals
        go_enter Try.func166, Try.ntmps166
        go_wp2
        go_ret
        exact ⟨_, rfl, ownI_lits (xs := [a, b]) (by simp) (by omega) (by simp), (Ext.new _ _).alloc _⟩
    · have e : inputsL ⟨k, a, b⟩ = [] := by unfold inputsL; rw [if_neg k4, if_neg k56]
      rw [e]
      have e5 : ¬ k = 5 := by omega
      have e6 : ¬ k = 6 := by omega
      go_enter Try.func166, Try.ntmps166
      go_wp2
      go_ret
      exact ⟨_, rfl, ownI_nil _ _ _, Ext.new _ _⟩
theorem foldS_len : ∀ (xs : List Int) (l : List Bool), (xs.foldl setB l).length = l.length
  | [], _ => rfl
  | x :: r, l => by rw [List.foldl_cons, foldS_len r, setB_len]
theorem foldS_mono : ∀ (xs : List Int) {l : List Bool} {j : Nat}, l.getD j false = true → (xs.foldl setB l).getD j false = true
  | [], _, _, h => h
  | x :: r, l, j, h => by rw [List.foldl_cons]; exact foldS_mono r (setB_mono h)
theorem foldS_succ {xs : List Int} {l : List Bool} {k : Nat} (h : k < xs.length) : (xs.take (k + 1)).foldl setB l = ((xs.take k).foldl setB l).set xs[k].toNat true := by
  rw [List.take_succ_eq_append_getElem h, List.foldl_append]; rfl
set_option maxRecDepth 100000 in
set_option maxHeartbeats 3200000 in
theorem s_l6Needed (n : Int) (gs : List Gat) (v : Value) (w : World) (h : Rd_GateS w v gs) (hg : circB n gs = true) :
    Calls Try.prog 113 #[v] w (RetB w 4 (need gs)) := by
  obtain ⟨A, c, rfl, h1, h2, ha⟩ := h.form
  obtain ⟨⟨hn0, hn12⟩, ⟨hl1, hl2⟩, hgk⟩ := circ_inv hg
  have HG : Hid (∀ (k : Nat) (hk : k < gs.length), gateB n k gs[k] = true) := hd hgk
  clear hgk h
  obtain ⟨M, hM⟩ : ∃ M, gs.length = M + 1 := ⟨gs.length - 1, by omega⟩
  have HU0 : Hid (needU gs 0 = (List.replicate (M + 1) false).set M true) := hd (by
    unfold needU setB; rw [hM, show (((M + 1 : Nat) : Int) - 1).toNat = M from by omega])
  have HUN : Hid (need gs = needU gs (M + 1)) := hd (by unfold need; rw [hM])
  have HSU : Hid (∀ j, j ≤ M → needU gs (M + 1 - j) = if (needU gs (M - j)).getD j false then mark1 (needU gs (M - j)) (gs.getD j ⟨0, 0, 0⟩) else needU gs (M - j)) := hd fun j hj => by
    have := needU_succ gs (M - j)
    rw [show gs.length - (M - j + 1) = j from by omega] at this
    rw [show M + 1 - j = M - j + 1 from by omega]; exact this
  have HLN : Hid (∀ m, (needU gs m).length = M + 1) := hd fun m => by rw [needU_len, hM]
  have HM := hd hM
  have hwr : IntKind.i64.wrap ((M : Int) + 1 - 1) = (M : Int) := by rw [show (M : Int) + 1 - 1 = (M : Int) from by omega]; exact IntWalk.i64_in _ (by omega)
  rw [hM] at ha h1 hl1 hl2 ⊢
  clear hM hg
  go_enter Try.func113, Try.ntmps113
  go_wp2_with (at_make; refine mkB (n := M + 1) _ rfl _ _ rfl rfl rfl (by omega) ?_; intro w1 hown1 hx1; obtain ⟨⟨u0, hcell⟩, hfr, hst⟩ := ownB_store (k := M) hown1 List.length_replicate (Nat.lt_succ_self M))
  have HX1 : Hid (Ext w (w1.setCell ⟨w.heap.size, M, none⟩ (.bool true))) := hd (hx1.setCell (Nat.le_refl _) _)
  have HO1 := hd (hst.out true)
  rw [← HU0.out] at HO1
  clear hown1 hx1 hst hcell hfr
  go_loopw [4, 5, 6] (fun i _ _ wr => ∃ j : Nat, j ≤ M + 1 ∧ i = .int .i64 ((j : Int) - 1) ∧ OwnB wr w.heap.size 4 (.slice (some ⟨w.heap.size, 0, none⟩) (M + 1) (M + 1)) (needU gs (M + 1 - j)) ∧ Ext w wr) (fun i _ _ _ => (intOf i + 1).toNat)
  case atStart => exact ⟨M + 1, by omega, by simp, by rw [Nat.sub_self]; exact HO1.out, HX1.out⟩
  case round =>
    clear HX1 HO1
    obtain ⟨j, hj, hi, ho, hx⟩ := hrel
    have HO := hd ho
    have HX := hd hx
    clear ho hx
    cases j with
    | zero =>
      obtain rfl : _ = Value.int .i64 (-1) := hi
      rw [Nat.sub_zero, ← HUN.out] at HO
      go_wp2
      go_ret
      exact ⟨_, rfl, HO.out, HX.out⟩
    | succ j =>
      rw [show ((j + 1 : Nat) : Int) - 1 = (j : Int) from by omega] at hi
      subst hi
      have hlt : j < gs.length := by rw [HM.out]; omega
      obtain ⟨a, rfl, d0, d1, d2⟩ := Rd_GateS.at_ ha hlt
      have c0 := HX.out.cell d0
      have c1 := HX.out.cell d1
      have c2 := HX.out.cell d2
      clear d0 d1 d2
      have hbd := inputsL_bd (HG.out j hlt)
      have hil := inputsL_len gs[j]
      have HST := HSU.out j (by omega)
      rw [show gs.getD j ⟨0, 0, 0⟩ = gs[j] by simp [List.getD, hlt], mark1_fold] at HST
      have HST := hd HST
      rw [show M + 1 - (j + 1) = M - j from by omega] at HO
      have HLL := hd (HLN.out (M - j))
      have HIN := hd (s_l6Inputs gs[j])
      generalize gs[j] = g at *
      generalize needU gs (M - j) = L at *
      obtain ⟨L2, hL2⟩ : ∃ L2, needU gs (M + 1 - j) = L2 := ⟨_, rfl⟩
      rw [hL2] at HST
      have HL2 := hd hL2
      clear hL2
      generalize inputsL g = ins at *
      have HBD := hd hbd
      obtain ⟨x, y, z⟩ := g
      dsimp only at c0 c1 c2 HIN
      have hjb : (0 : Int) ≤ (j : Int) := by omega
      go_wp2_with fail
      refine (HIN.out _).mono ?_
      rintro e w2 ⟨u, rfl, hu, hx2⟩
      have HO2 := hd (OwnB.ext HO.out hx2)
      have HX2 := hd (HX.out.trans hx2)
      obtain ⟨A1, c1', rfl, hu3⟩ := hu.form
      have hsz : w.heap.size < wr.heap.size := (own_blocks HO.out _ rfl).2
      clear hu hx2 c0 c1 c2 HO HX HIN hbd
      obtain ⟨q, hq⟩ : ∃ q, L.getD j false = q := ⟨_, rfl⟩
      have HQ := hd hq
      rw [hq] at HST
      have HFL : Hid (∀ k, ((ins.take k).foldl setB L).length = M + 1) := hd fun k => by rw [foldS_len, HLL.out]
      clear hq
      go_wp2
      cases q
      · have HST' : Hid (L2 = L) := hd (by rw [HST.out]; rfl)
        clear HST
        obtain ⟨ao, hao, hco⟩ := RdB.getD (hd (OwnB.rd HO2.out)) (k := j) (by rw [HLL.out]; omega)
        obtain rfl := Option.some.inj hao
        clear hao
        rw [HQ.out, add0] at hco
        go_loopw [6] (fun k wr => k = .int .i64 0 ∧ wr = w2) (fun _ _ => 0)
        case atStart => exact ⟨rfl, rfl⟩
        case round =>
          obtain ⟨rfl, rfl⟩ := hrel
          have hjM : j < M + 1 := by omega
          by_cases h0 : 0 < ins.length
          · have h0' : (0 : Int) < (ins.length : Int) := by omega
            go_wp2
            go_roundw
            case rel => exact ⟨j, by omega, by simp, by rw [HL2.out, HST'.out]; exact HO2.out, HX2.out⟩
            case measure => simp [intOf]
          · have h0' : ¬ (0 : Int) < (ins.length : Int) := by omega
            go_wp2
            go_roundw
            case rel => exact ⟨j, by omega, by simp, by rw [HL2.out, HST'.out]; exact HO2.out, HX2.out⟩
            case measure => simp [intOf]
      · have HST' : Hid (L2 = ins.foldl setB L) := hd (by rw [HST.out]; rfl)
        clear HST
        go_loopw [6] (fun i wr => ∃ k : Nat, k ≤ ins.length ∧ i = .int .i64 k ∧ OwnB wr w.heap.size 4 (.slice (some ⟨w.heap.size, 0, none⟩) (M + 1) (M + 1)) ((ins.take k).foldl setB L) ∧ Touch w.heap.size (w.heap.size + 1) w2 wr) (fun i _ => ins.length - (intOf i).toNat)
        case atStart => exact ⟨0, by omega, rfl, HO2.out, Touch.refl _ _ _⟩
        case round =>
          obtain ⟨k, hk, rfl, ho, hx⟩ := hrel
          have HO3 := hd ho
          have HX3 := hd (touch_ext HX2.out hx (Nat.le_refl _))
          have HI3 := hd (OwnI.rd (own_touch hu3.out hx fun g hg => .inr (Nat.le_trans hsz ((own_blocks hu3.out g hg).1))))
          have hjM : j < M + 1 := by omega
          by_cases hltk : k < ins.length
          · obtain ⟨a2, rfl, hc⟩ := RdI.at_ HI3 hltk
            have hxb := HBD.out _ (List.getElem_mem hltk)
            have HFS := hd (foldS_succ (l := L) hltk)
            have hgd := foldS_mono (ins.take k) (j := j) HQ.out
            have hfl := HFL.out k
            generalize ins[k] = t at *
            generalize (ins.take k).foldl setB L = M1 at *
            obtain ⟨ao, hao, hco⟩ := RdB.getD (hd (OwnB.rd HO3.out)) (k := j) (by omega)
            obtain rfl := Option.some.inj hao
            clear hao
            rw [hgd, add0] at hco
            obtain ⟨hx0, hx1⟩ := hxb
            obtain ⟨tn, rfl⟩ := Int.eq_ofNat_of_zero_le hx0
            rw [Int.toNat_natCast] at HFS
            obtain ⟨⟨u0, hcell⟩, hfr, hst⟩ := ownB_store (k := tn) HO3.out hfl (by omega)
            have htM : tn < M + 1 := by omega
            clear hgd hx0
            go_wp2
            go_roundw
            case rel => exact ⟨k + 1, by omega, by go_num, by rw [HFS.out]; exact hst.out _, hx.setCell (Nat.le_refl _) (Nat.lt_succ_self _) _⟩
            case measure => simp [intOf]; omega
          · obtain rfl : k = ins.length := by omega
            rw [List.take_length, ← HST'.out, ← HL2.out] at HO3
            go_wp2
            go_roundw
            case rel => exact ⟨j, by omega, by simp, HO3.out, HX3.out⟩
            case measure => simp [intOf]
set_option maxRecDepth 100000 in
set_option maxHeartbeats 3200000 in
theorem s_l29Plain (f : Cnf) (v gv : Value) (k : Nat) (gs : List Gat) (w : World) (h : Rd_Cnf w v f) (hgs : Rd_GateS w gv gs) (b : Bd_Cnf f) (hg : goodB f = true) (hk : k ≤ f.cs.length) (hc : circB f.n gs = true) :
    Calls Try.prog 56 #[v, .int .i64 k, gv] w (RetX w (.bool (plainB (bothV f k f.n.toNat) gs))) := by
  obtain ⟨A, c, rfl⟩ := h.form
  have hgs0 := hgs
  obtain ⟨A2, c2, rfl, h1, h2, ha⟩ := hgs.form
  clear hgs
  have X0 : Hid (Ext w (w.alloc (.cells #[.int .i64 f.n, .slice A f.cs.length c] 31))) := hd (Ext.new _ _)
  have HV := hd (h.ext X0.out)
  have HB0 := hd (blk_new (w := w) (.cells #[.int .i64 f.n, .slice A f.cs.length c] 31) rfl)
  have HSD := hd (fun w' hx => s_l29Sides f (.agg #[.int .i64 f.n, .slice A f.cs.length c]) k w' hx b hg hk)
  have HGS := hd hgs0
  have HND := hd (fun w' h' => s_l6Needed f.n gs (.slice A2 gs.length c2) w' h' hc)
  have HN := hd (filt12 hg (fun v => inS (f.cs.take k) v && inS (f.cs.drop k) v))
  have hbl : (bothV f k f.n.toNat).length ≤ 12 := HN.out
  have hl2 := (circ_inv hc).2.1
  have hNl : (need gs).length = gs.length := needU_len _ _
  have hP : plainB (bothV f k f.n.toNat) gs = (List.range gs.length).all fun i => !((need gs).getD i false && (decide ((gs.getD i ⟨0, 0, 0⟩).k = 1) && !hasI (bothV f k f.n.toNat) (gs.getD i ⟨0, 0, 0⟩).a)) := rfl
  generalize plainB (bothV f k f.n.toNat) gs = R at *
  generalize bothV f k f.n.toNat = vs at *
  generalize need gs = L at *
  have HP := hd hP
  obtain ⟨c0, c1⟩ := blk2 HB0.out
  clear h hgs0 hg hk hc b hP HN
  go_enter Try.func56, Try.ntmps56
  go_wp2_with fail
  refine (HSD.out _ HV.out).mono ?_
  rintro e w1 ⟨u0, u1, u2, rfl, -, -, hu2, hx⟩
  have X1 := hd (X0.out.trans hx)
  have HU2 := hd hu2.rd
  clear hx hu2 c0 c1
  go_wp2_with fail
  refine (HND.out _ (HGS.out.ext X1.out)).mono ?_
  rintro e w2 ⟨u3, rfl, hu3, hx⟩
  have X2 := hd (X1.out.trans hx)
  have HU2' := hd (HU2.out.ext hx)
  obtain ⟨A3, c3, rfl, hO3⟩ := hu3.form
  have HR3 := hd (OwnB.rd hO3.out)
  clear hx hu3 HU2
  rw [hNl] at HR3 ⊢
  go_wp2
  go_loopw [11] (fun i wr => ∃ j : Nat, j ≤ gs.length ∧ i = .int .i64 j ∧ Hid (∀ i, i < j → (!(L.getD i false && (decide ((gs.getD i ⟨0, 0, 0⟩).k = 1) && !hasI vs (gs.getD i ⟨0, 0, 0⟩).a))) = true) ∧ Ext w2 wr) (fun i _ => gs.length - (intOf i).toNat)
  case atStart => exact ⟨0, by omega, rfl, hd (fun i hi => by omega), Ext.refl _⟩
  case round =>
    obtain ⟨j, hj, rfl, HI, hx⟩ := hrel
    have HX := hd (X2.out.trans hx)
    by_cases hlt : j < gs.length
    · obtain ⟨a, rfl, d0, d1, d2⟩ := Rd_GateS.at_ ha hlt
      have c0 := HX.out.cell d0
      have c1 := HX.out.cell d1
      have HR3' := hd (RdB.ext HR3.out hx)
      obtain ⟨ab, rfl, cb⟩ := RdB.getD HR3' (k := j) (by omega)
      have HU := hd (HU2'.out.ext hx)
      have HXX := hd hx
      clear d0 d1 d2 hx
      have hget : gs.getD j ⟨0, 0, 0⟩ = gs[j] := by simp [List.getD, hlt]
      have HNX : Hid ((!(L.getD j false && (decide (gs[j].k = 1) && !hasI vs gs[j].a))) = true → ∀ i, i < j + 1 → (!(L.getD i false && (decide ((gs.getD i ⟨0, 0, 0⟩).k = 1) && !hasI vs (gs.getD i ⟨0, 0, 0⟩).a))) = true) := hd fun h i hi => by
        rcases Nat.lt_or_ge i j with h1 | h1
        · exact HI.out i h1
        · obtain rfl : i = j := by omega
          rw [hget]; exact h
      have HNO : Hid ((!(L.getD j false && (decide (gs[j].k = 1) && !hasI vs gs[j].a))) = false → R = false) := hd fun h => by
        rw [HP.out, Bool.eq_false_iff]
        intro h2
        have := List.all_eq_true.1 h2 j (List.mem_range.2 hlt)
        rw [hget, h] at this
        cases this
      clear hget
      generalize gs[j] = g at *
      generalize L.getD j false = q at *
      obtain ⟨x, y, z⟩ := g
      dsimp only at c0 c1 HNX HNO
      have hjb : (0 : Int) ≤ (j : Int) := by omega
      have hjb2 : (j : Int) < (gs.length : Int) := by omega
      cases q
      · go_wp2
        go_roundw
        case rel => exact ⟨j + 1, by omega, by go_num, hd (HNX.out (by simp)), HXX.out⟩
        case measure => simp [intOf]; omega
      · by_cases hx1 : x = 1
        · subst hx1
          have HL1 := hd (s_l1Has vs u2 y _ HU.out (by omega))
          obtain ⟨q, hq⟩ : ∃ q, hasI vs y = q := ⟨_, rfl⟩
          rw [hq] at HL1 HNX HNO
          clear hq
          go_wp2_with fail
          refine HL1.out.mono ?_
          rintro e w3 ⟨rfl, rfl⟩
          cases q
          · go_wp2
            go_ret
            exact RetX.mk (by rw [HNO.out (by simp)]; rfl) HX.out
          · go_wp2
            go_roundw
            case rel => exact ⟨j + 1, by omega, by go_num, hd (HNX.out (by simp)), HXX.out⟩
            case measure => simp [intOf]; omega
        · have hx1' : (x == 1) = false := by simp [hx1]
          have HD := hd (decide_eq_false hx1)
          clear hx1
          go_wp2
          go_roundw
          case rel => exact ⟨j + 1, by omega, by go_num, hd (HNX.out (by rw [HD.out]; simp)), HXX.out⟩
          case measure => simp [intOf]; omega
    · go_wp2
      go_ret
      exact RetX.mk (by rw [HP.out, List.all_eq_true.2 fun i hi => HI.out i (by have := List.mem_range.1 hi; omega)]; rfl) HX.out
end Go.Proofs.Ytjeeffmpfdhppaa
