/-
  The values of a circuit's gates: both sides. Condition: a valid circuit, bits below 2^20.
-/
import Derived.Test.YtjeeffmpfdhppaaCirc
import Derived.Test.YtjeeffmpfdhppaaMkB
namespace Go.Proofs.Ytjeeffmpfdhppaa
open Go.RowKit
theorem ownB_ge {w : World} {base : Nat} {e : TypeId} {v : Value} {xs : List Bool} (h : OwnB w base e v xs) : ∀ g, v.ownBlock = some g → base ≤ g := fun g hg => (own_blocks h g hg).1
theorem gval1 {b : Nat} {L : List Bool} {j : Nat} {z : Int} : gval b L ⟨1, (j : Int) + 1, z⟩ = (bitN b j == 1) := by
  unfold gval
  rw [if_pos rfl]
  show (bitN b ((j : Int) + 1 - 1).toNat == 1) = _
  rw [show ((j : Int) + 1 - 1).toNat = j from by omega]
theorem gval2 {b : Nat} {L : List Bool} {y z : Int} : gval b L ⟨2, y, z⟩ = true := rfl
theorem gval3 {b : Nat} {L : List Bool} {y z : Int} : gval b L ⟨3, y, z⟩ = false := rfl
theorem gval4 {b : Nat} {L : List Bool} {j : Nat} {z : Int} : gval b L ⟨4, j, z⟩ = !(L.getD j false) := rfl
theorem gval5 {b : Nat} {L : List Bool} {i j : Nat} : gval b L ⟨5, i, j⟩ = (L.getD i false && L.getD j false) := rfl
theorem gval6 {b : Nat} {L : List Bool} {i j : Nat} : gval b L ⟨6, i, j⟩ = (L.getD i false || L.getD j false) := rfl
theorem RdB.getD {w : World} {A : Option Addr} {n c : Nat} {xs : List Bool} (h : Hid (RdB w (.slice A n c) xs)) {k : Nat} (hk : k < xs.length) : ∃ a, A = some a ∧ w.cell? (a.add k) = some (.bool (xs.getD k false)) := by
  obtain ⟨a, ha, hc⟩ := RdB.at_ h hk
  refine ⟨a, ha, ?_⟩
  rw [hc]
  simp [List.getD, hk]
theorem add0 (g j : Nat) : (⟨g, 0, none⟩ : Addr).add j = ⟨g, j, none⟩ := by
  unfold Addr.add
  by_cases h : j = 0 <;> simp [h]
theorem getD_app {L Z : List Bool} {j : Nat} (h : j < L.length) : (L ++ Z).getD j false = L.getD j false := by
  simp [List.getD, List.getElem?_append_left h]
theorem splice_false {L : List Bool} {n k : Nat} (_ : L.length = k) (h : k < n) : L ++ (List.replicate n false).drop k = (L ++ [false]) ++ (List.replicate n false).drop (k + 1) := by
  rw [drop_cons (by simpa using h)]
  simp
section
variable {ops : Array Oper} {rest : List Oper} {o : Oper} {a : Act} {Q : Exit → Act → World → Prop}
theorem appBn (w : World) {nb : Nat} {v : Value} {xs : List Bool} {base : Nat} (hown : OwnB w base 4 v xs) (hgd : o.guard = none) (s x : Operand)
    (ho : o.op = .call { callee := .builtin .append, args := #[s, x], argTypes := #[28, 28] })
    (u : Bool) (hs : a.eval s = v) (hx : a.eval x = .slice (some ⟨nb, 0, none⟩) 1 1) (hnb : w.heap.size = nb) (hn : xs.length ≤ 1073741824) (hbase : base ≤ w.heap.size)
    (h : ∀ v' w', OwnB w' base 4 v' (xs ++ [u]) → (w.alloc (.cells #[.bool u] 4)).grownBy w' v.ownBlock → (v'.ownBlock = v.ownBlock ∨ v'.ownBlock = some (w.heap.size + 1)) → wpList Try.prog ops Q rest (a.put o.dst v') w') :
    wpList Try.prog ops Q (o :: rest) a (w.alloc (.cells #[.bool u] 4)) := by
  subst hnb
  exact appB w hown hgd s x ho u hs hx hn hbase h
end
set_option maxRecDepth 100000 in
set_option maxHeartbeats 6400000 in
theorem s_l6Values (n : Int) (gs : List Gat) (v : Value) (b : Nat) (w : World) (h : Rd_GateS w v gs) (hg : circB n gs = true) (hb : b < 1000000) :
    Calls Try.prog 116 #[v, .int .i64 b] w (RetB w 4 (gvals b gs gs.length)) := by
  obtain ⟨A, c, rfl, h1, h2, ha⟩ := h.form
  have HG := hd (circ_inv hg)
  obtain ⟨⟨hn0, hn12⟩, ⟨hl1, hl2⟩, -⟩ := HG.out
  clear h hg
  have O0 : Hid (OwnB (w.alloc (.cells #[] 4)) w.heap.size 4 (.slice (some ⟨w.heap.size, 0, none⟩) 0 0) (gvals b gs 0)) := hd (own_lit w w.heap.size 4 1 #[] 0 (Nat.le_refl _) (Nat.zero_le _) rfl)
  have X0 : Hid (Ext w (w.alloc (.cells #[] 4))) := hd (Ext.new _ _)
  go_enter Try.func116, Try.ntmps116
  go_wp2
  go_loopw [6, 5, 7, 8] (fun i o _ _ wr => ∃ k : Nat, k ≤ gs.length ∧ i = .int .i64 k ∧ OwnB wr w.heap.size 4 o (gvals b gs k) ∧ Ext w wr) (fun i _ _ _ _ => gs.length - (intOf i).toNat)
  case atStart => exact ⟨0, by omega, rfl, O0.out, X0.out⟩
  case round =>
    obtain ⟨k, hk, rfl, ho, hx⟩ := hrel
    have HO := hd ho
    have HX := hd hx
    clear ho hx O0 X0
    by_cases hlt : k < gs.length
    · obtain ⟨a, rfl, d0, d1, d2⟩ := Rd_GateS.at_ ha hlt
      have c0 := HX.out.cell d0
      have c1 := HX.out.cell d1
      have c2 := HX.out.cell d2
      clear d0 d1 d2
      have hvg := gate_inv (HG.out.2.2 k hlt)
      have HST : Hid (gvals b gs (k + 1) = gvals b gs k ++ [gval b (gvals b gs k) gs[k]]) := hd (by
        have e : gs.getD k ⟨0, 0, 0⟩ = gs[k] := by simp [List.getD, hlt]
        rw [gvals, e])
      have hLl := gvals_len b gs k
      generalize gs[k] = g at *
      generalize gvals b gs k = L at *
      obtain ⟨x, y, z⟩ := g
      dsimp only at c0 c1 c2 hvg
      have HX1 := hd (HX.out.alloc (.cells #[.int .i64 x, .int .i64 y, .int .i64 z] 82))
      have HO1 := hd (OwnB.ext HO.out (Ext.new wr (.cells #[.int .i64 x, .int .i64 y, .int .i64 z] 82)))
      obtain ⟨AO, cO, rfl, hR⟩ := HO.out.form
      rw [hLl] at HO HO1 hR ⊢
      have hRd := hd (OwnB.rd HO1.out)
      clear hR
      rcases hvg with ⟨rfl, hy1, hy2⟩ | rfl | rfl | ⟨rfl, hy1, hy2⟩ | ⟨rfl, hy1, hy2, hz1, hz2⟩ | ⟨rfl, hy1, hy2, hz1, hz2⟩
      · obtain ⟨j, rfl⟩ : ∃ j : Nat, y = (j : Int) + 1 := ⟨(y - 1).toNat, by omega⟩
        rw [gval1] at HST
        have hwr : IntKind.i64.wrap ((j : Int) + 1 - 1) = (j : Int) := by rw [show (j : Int) + 1 - 1 = (j : Int) from by omega]; exact IntWalk.i64_in _ (by omega)
        have hj12 : j < 12 := by omega
        have hsh := shr_and (b := b) (k := j) (by omega)
        have hbl := bitN_lt b j
        have hq' : (((bitN b j : Nat) : Int) == 1) = (bitN b j == 1) := natcast_beq _ 1
        generalize bitN b j = t at *
        generalize hq : (t == 1) = q at *
        clear hq
        go_wp2_with (at_builtin; refine appBn _ HO1.out rfl _ _ rfl _ (by rfl) (by rfl) (by simp) (by omega) HX1.out.size ?_; intro v' w1 ho1 hg1 _)
        go_roundw
        case rel => exact ⟨k + 1, by omega, by go_num, by rw [HST.out]; exact ho1, ext_app HX1.out hg1 (ownB_ge HO1.out)⟩
        case measure => simp [intOf]; omega
      · rw [gval2] at HST
        go_wp2_with (at_builtin; refine appBn _ HO1.out rfl _ _ rfl _ (by rfl) (by rfl) (by simp) (by omega) HX1.out.size ?_; intro v' w1 ho1 hg1 _)
        go_roundw
        case rel => exact ⟨k + 1, by omega, by go_num, by rw [HST.out]; exact ho1, ext_app HX1.out hg1 (ownB_ge HO1.out)⟩
        case measure => simp [intOf]; omega
      · rw [gval3] at HST
        go_wp2_with (at_builtin; refine appBn _ HO1.out rfl _ _ rfl _ (by rfl) (by rfl) (by simp) (by omega) HX1.out.size ?_; intro v' w1 ho1 hg1 _)
        go_roundw
        case rel => exact ⟨k + 1, by omega, by go_num, by rw [HST.out]; exact ho1, ext_app HX1.out hg1 (ownB_ge HO1.out)⟩
        case measure => simp [intOf]; omega
      · obtain ⟨j, rfl⟩ := Int.eq_ofNat_of_zero_le hy1
        rw [gval4] at HST
        obtain ⟨ao, rfl, hco⟩ := RdB.getD hRd (k := j) (by omega)
        generalize L.getD j false = q at *
        have hjk : j < k := by omega
        go_wp2_with (at_builtin; refine appBn _ HO1.out rfl _ _ rfl _ (by rfl) (by rfl) (by simp) (by omega) HX1.out.size ?_; intro v' w1 ho1 hg1 _)
        go_roundw
        case rel => exact ⟨k + 1, by omega, by go_num, by rw [HST.out]; exact ho1, ext_app HX1.out hg1 (ownB_ge HO1.out)⟩
        case measure => simp [intOf]; omega
      · obtain ⟨j, rfl⟩ := Int.eq_ofNat_of_zero_le hy1
        obtain ⟨j2, rfl⟩ := Int.eq_ofNat_of_zero_le hz1
        rw [gval5] at HST
        obtain ⟨ao, rfl, hco⟩ := RdB.getD hRd (k := j) (by omega)
        obtain ⟨ao', hao, hco2⟩ := RdB.getD hRd (k := j2) (by omega)
        obtain rfl := Option.some.inj hao
        clear hao
        generalize L.getD j false = q at *
        generalize L.getD j2 false = q2 at *
        have hjk : j < k := by omega
        have hjk2 : j2 < k := by omega
        cases q
        · go_wp2_with (at_builtin; refine appBn _ HO1.out rfl _ _ rfl _ (by rfl) (by rfl) (by simp) (by omega) HX1.out.size ?_; intro v' w1 ho1 hg1 _)
          go_roundw
          case rel => exact ⟨k + 1, by omega, by go_num, by rw [HST.out]; exact ho1, ext_app HX1.out hg1 (ownB_ge HO1.out)⟩
          case measure => simp [intOf]; omega
        · go_wp2_with (at_builtin; refine appBn _ HO1.out rfl _ _ rfl _ (by rfl) (by rfl) (by simp) (by omega) HX1.out.size ?_; intro v' w1 ho1 hg1 _)
          go_roundw
          case rel => exact ⟨k + 1, by omega, by go_num, by rw [HST.out]; exact ho1, ext_app HX1.out hg1 (ownB_ge HO1.out)⟩
          case measure => simp [intOf]; omega
      · obtain ⟨j, rfl⟩ := Int.eq_ofNat_of_zero_le hy1
        obtain ⟨j2, rfl⟩ := Int.eq_ofNat_of_zero_le hz1
        rw [gval6] at HST
        obtain ⟨ao, rfl, hco⟩ := RdB.getD hRd (k := j) (by omega)
        obtain ⟨ao', hao, hco2⟩ := RdB.getD hRd (k := j2) (by omega)
        obtain rfl := Option.some.inj hao
        clear hao
        generalize L.getD j false = q at *
        generalize L.getD j2 false = q2 at *
        have hjk : j < k := by omega
        have hjk2 : j2 < k := by omega
        cases q
        · go_wp2_with (at_builtin; refine appBn _ HO1.out rfl _ _ rfl _ (by rfl) (by rfl) (by simp) (by omega) HX1.out.size ?_; intro v' w1 ho1 hg1 _)
          go_roundw
          case rel => exact ⟨k + 1, by omega, by go_num, by rw [HST.out]; exact ho1, ext_app HX1.out hg1 (ownB_ge HO1.out)⟩
          case measure => simp [intOf]; omega
        · go_wp2_with (at_builtin; refine appBn _ HO1.out rfl _ _ rfl _ (by rfl) (by rfl) (by simp) (by omega) HX1.out.size ?_; intro v' w1 ho1 hg1 _)
          go_roundw
          case rel => exact ⟨k + 1, by omega, by go_num, by rw [HST.out]; exact ho1, ext_app HX1.out hg1 (ownB_ge HO1.out)⟩
          case measure => simp [intOf]; omega
    · obtain rfl : k = gs.length := by omega
      go_wp2
      go_ret
      exact ⟨_, rfl, HO.out, HX.out⟩
set_option maxRecDepth 100000 in
set_option maxHeartbeats 6400000 in
theorem i_gateValues (n : Int) (gs : List Gat) (v : Value) (b : Nat) (w : World) (h : Rd_GateS w v gs) (hg : circB n gs = true) (hb : b < 1000000) :
    Calls Try.prog 122 #[v, .int .i64 b] w (RetB w 4 (gvals b gs gs.length)) := by
  obtain ⟨A, c, rfl, h1, h2, ha⟩ := h.form
  obtain ⟨⟨hn0, hn12⟩, ⟨hl1, hl2⟩, hgk⟩ := circ_inv hg
  have HG : Hid (∀ (k : Nat) (g : Gat), gs[k]? = some g → gateB n k g = true) := hd fun k g hkg => by
    obtain ⟨hk, e⟩ := List.getElem?_eq_some_iff.1 hkg
    rw [← e]; exact hgk k hk
  clear hgk
  clear h hg
  have hgl := gvals_len b gs
  have HGL := hd hgl
  clear hgl
  generalize hN : gs.length = N at *
  have HN := hd hN
  clear hN
  go_enter Try.func122, Try.ntmps122
  go_wp2_with (at_make; refine mkB (n := N) _ rfl _ _ rfl rfl rfl (by omega) ?_; intro w2 hown2 hx2)
  have HX2 := hd hx2
  have HO2 := hd hown2
  have HLE := hd hx2.size
  clear hown2 hx2
  go_wp2
  go_loopw [13, 6, 7] (fun i _ _ wr => ∃ k : Nat, k ≤ N ∧ i = .int .i64 k ∧ OwnB wr w.heap.size 4 (.slice (some ⟨w.heap.size, 0, none⟩) N N) (gvals b gs k ++ (List.replicate N false).drop k) ∧ Ext w wr) (fun i _ _ _ => N - (intOf i).toNat)
  case atStart => exact ⟨0, by omega, rfl, by simpa [gvals] using HO2.out, HX2.out⟩
  case round =>
    obtain ⟨k, hk, rfl, ho, hx⟩ := hrel
    have HO := hd ho
    have HX := hd hx
    clear ho hx HO2 HX2
    by_cases hlt : k < N
    · have hlt' : k < gs.length := by rw [HN.out]; exact hlt
      obtain ⟨a, rfl, d0, d1, d2⟩ := Rd_GateS.at_ ha hlt'
      have c0 := HX.out.cell d0
      have c1 := HX.out.cell d1
      have c2 := HX.out.cell d2
      clear d0 d1 d2
      have hvg := gate_inv (HG.out k gs[k] (List.getElem?_eq_getElem hlt'))
      have HST : Hid (gvals b gs (k + 1) = gvals b gs k ++ [gval b (gvals b gs k) gs[k]]) := hd (by
        have e : gs.getD k ⟨0, 0, 0⟩ = gs[k] := by simp [List.getD, hlt']
        rw [gvals, e])
      have hLl := HGL.out k
      have HS1 : Hid (∀ q, (gvals b gs k ++ (List.replicate N false).drop k).set k q = (gvals b gs k ++ [q]) ++ (List.replicate N false).drop (k + 1)) := hd fun q => splice_snoc hLl (by simpa using hlt)
      have HS2 := hd (splice_false hLl hlt)
      have HLL : Hid ((gvals b gs k ++ (List.replicate N false).drop k).length = N) := hd (by simp [hLl]; omega)
      have HGD : Hid (∀ j, j < k → (gvals b gs k ++ (List.replicate N false).drop k).getD j false = (gvals b gs k).getD j false) := hd fun j hj => getD_app (by omega)
      generalize gs[k] = g at *
      generalize gvals b gs k = L at *
      generalize L ++ (List.replicate N false).drop k = M at *
      obtain ⟨x, y, z⟩ := g
      dsimp only at c0 c1 c2 hvg
      have HX1 := hd (HX.out.alloc (.cells #[.int .i64 x, .int .i64 y, .int .i64 z] 82))
      have HO1 := hd (OwnB.ext HO.out (Ext.new wr (.cells #[.int .i64 x, .int .i64 y, .int .i64 z] 82)))
      have hRd := hd (OwnB.rd HO1.out)
      obtain ⟨⟨u0, hc⟩, hf, hst⟩ := ownB_store HO1.out (by rw [HLL.out]) hlt
      have hszw := HX.out.size
      rcases hvg with ⟨rfl, hy1, hy2⟩ | rfl | rfl | ⟨rfl, hy1, hy2⟩ | ⟨rfl, hy1, hy2, hz1, hz2⟩ | ⟨rfl, hy1, hy2, hz1, hz2⟩
      · obtain ⟨j, rfl⟩ : ∃ j : Nat, y = (j : Int) + 1 := ⟨(y - 1).toNat, by omega⟩
        rw [gval1] at HST
        have hwr : IntKind.i64.wrap ((j : Int) + 1 - 1) = (j : Int) := by rw [show (j : Int) + 1 - 1 = (j : Int) from by omega]; exact IntWalk.i64_in _ (by omega)
        have hj12 : j < 12 := by omega
        have hsh := shr_and (b := b) (k := j) (by omega)
        have hbl := bitN_lt b j
        have hq' : (((bitN b j : Nat) : Int) == 1) = (bitN b j == 1) := natcast_beq _ 1
        generalize bitN b j = t at *
        generalize hq : (t == 1) = q at *
        clear hq
        go_wp2
        go_roundw
        case rel => exact ⟨k + 1, by omega, by go_num, by rw [HST.out, ← HS1.out]; exact hst.out _, HX1.out.setCell (Nat.le_refl _) _⟩
        case measure => simp [intOf]; omega
      · rw [gval2] at HST
        go_wp2
        go_roundw
        case rel => exact ⟨k + 1, by omega, by go_num, by rw [HST.out, ← HS1.out]; exact hst.out _, HX1.out.setCell (Nat.le_refl _) _⟩
        case measure => simp [intOf]; omega
      · rw [gval3] at HST
        go_wp2
        go_roundw
        case rel => exact ⟨k + 1, by omega, by go_num, by rw [HST.out, ← HS2.out]; exact HO1.out, HX1.out⟩
        case measure => simp [intOf]; omega
      · obtain ⟨j, rfl⟩ := Int.eq_ofNat_of_zero_le hy1
        rw [gval4] at HST
        obtain ⟨ao, hao, hco⟩ := RdB.getD hRd (k := j) (by rw [HLL.out]; omega)
        obtain rfl := Option.some.inj hao
        clear hao
        rw [HGD.out j (by omega), add0] at hco
        generalize L.getD j false = q at *
        have hjk : j < N := by omega
        go_wp2
        go_roundw
        case rel => exact ⟨k + 1, by omega, by go_num, by rw [HST.out, ← HS1.out]; exact hst.out _, HX1.out.setCell (Nat.le_refl _) _⟩
        case measure => simp [intOf]; omega
      · obtain ⟨j, rfl⟩ := Int.eq_ofNat_of_zero_le hy1
        obtain ⟨j2, rfl⟩ := Int.eq_ofNat_of_zero_le hz1
        rw [gval5] at HST
        obtain ⟨ao, hao, hco⟩ := RdB.getD hRd (k := j) (by rw [HLL.out]; omega)
        obtain rfl := Option.some.inj hao
        obtain ⟨ao', hao', hco2⟩ := RdB.getD hRd (k := j2) (by rw [HLL.out]; omega)
        obtain rfl := Option.some.inj hao'
        clear hao hao'
        rw [HGD.out j (by omega), add0] at hco
        rw [HGD.out j2 (by omega), add0] at hco2
        generalize L.getD j false = q at *
        generalize L.getD j2 false = q2 at *
        have hjk : j < N := by omega
        have hjk2 : j2 < N := by omega
        cases q
        · go_wp2
          go_roundw
          case rel => exact ⟨k + 1, by omega, by go_num, by rw [HST.out, ← HS1.out]; exact hst.out _, HX1.out.setCell (Nat.le_refl _) _⟩
          case measure => simp [intOf]; omega
        · go_wp2
          go_roundw
          case rel => exact ⟨k + 1, by omega, by go_num, by rw [HST.out, ← HS1.out]; exact hst.out _, HX1.out.setCell (Nat.le_refl _) _⟩
          case measure => simp [intOf]; omega
      · obtain ⟨j, rfl⟩ := Int.eq_ofNat_of_zero_le hy1
        obtain ⟨j2, rfl⟩ := Int.eq_ofNat_of_zero_le hz1
        rw [gval6] at HST
        obtain ⟨ao, hao, hco⟩ := RdB.getD hRd (k := j) (by rw [HLL.out]; omega)
        obtain rfl := Option.some.inj hao
        obtain ⟨ao', hao', hco2⟩ := RdB.getD hRd (k := j2) (by rw [HLL.out]; omega)
        obtain rfl := Option.some.inj hao'
        clear hao hao'
        rw [HGD.out j (by omega), add0] at hco
        rw [HGD.out j2 (by omega), add0] at hco2
        generalize L.getD j false = q at *
        generalize L.getD j2 false = q2 at *
        have hjk : j < N := by omega
        have hjk2 : j2 < N := by omega
        cases q
        · go_wp2
          go_roundw
          case rel => exact ⟨k + 1, by omega, by go_num, by rw [HST.out, ← HS1.out]; exact hst.out _, HX1.out.setCell (Nat.le_refl _) _⟩
          case measure => simp [intOf]; omega
        · go_wp2
          go_roundw
          case rel => exact ⟨k + 1, by omega, by go_num, by rw [HST.out, ← HS1.out]; exact hst.out _, HX1.out.setCell (Nat.le_refl _) _⟩
          case measure => simp [intOf]; omega
    · obtain rfl : k = N := by omega
      have HE : Hid (gvals b gs k ++ (List.replicate k false).drop k = gvals b gs k) := hd (by simp)
      rw [HE.out] at HO
      go_wp2
      go_ret
      exact ⟨_, rfl, HO.out, HX.out⟩
set_option maxHeartbeats 1600000 in
theorem s_l6Value (n : Int) (gs : List Gat) (v : Value) (b : Nat) (w : World) (h : Rd_GateS w v gs) (hg : circB n gs = true) (hb : b < 1000000) :
    Calls Try.prog 58 #[v, .int .i64 b] w (RetX w (.bool (circV b gs))) := by
  obtain ⟨A, c, rfl, -⟩ := h.form
  have HC := hd (fun w' h' => s_l6Values n gs (.slice A gs.length c) b w' h' hg hb)
  have HR := hd h
  obtain ⟨-, ⟨hl1, hl2⟩, -⟩ := circ_inv hg
  have hgl := gvals_len b gs gs.length
  have HV : Hid (circV b gs = (gvals b gs gs.length).getD (gs.length - 1) false) := hd rfl
  clear h hg
  generalize gvals b gs gs.length = L at *
  generalize gs.length = N at *
  go_enter Try.func58, Try.ntmps58
  go_wp2_with fail
  refine (HC.out _ HR.out).mono ?_
  rintro e w1 ⟨u, rfl, hu, hx⟩
  have HX := hd hx
  obtain ⟨A1, c1, rfl, hR⟩ := hu.form
  have hRd := hd (OwnB.rd hR.out)
  obtain ⟨a1, rfl, hc⟩ := RdB.getD hRd (k := N - 1) (by omega)
  clear hu hx hR hRd
  have hwr : IntKind.i64.wrap ((N : Int) - 1) = (N : Int) - 1 := IntWalk.i64_in _ (by omega)
  rw [hgl]
  generalize L.getD (N - 1) false = q at *
  go_wp2
  go_ret
  exact RetX.mk (by rw [HV.out]; rfl) HX.out
set_option maxHeartbeats 1600000 in
theorem i_circuitValue (n : Int) (gs : List Gat) (v : Value) (b : Nat) (w : World) (h : Rd_GateS w v gs) (hg : circB n gs = true) (hb : b < 1000000) :
    Calls Try.prog 63 #[v, .int .i64 b] w (RetX w (.bool (circV b gs))) := by
  obtain ⟨A, c, rfl, -⟩ := h.form
  have HC := hd (fun w' h' => i_gateValues n gs (.slice A gs.length c) b w' h' hg hb)
  have HR := hd h
  obtain ⟨-, ⟨hl1, hl2⟩, -⟩ := circ_inv hg
  have hgl := gvals_len b gs gs.length
  have HV : Hid (circV b gs = (gvals b gs gs.length).getD (gs.length - 1) false) := hd rfl
  clear h hg
  generalize gvals b gs gs.length = L at *
  generalize gs.length = N at *
  go_enter Try.func63, Try.ntmps63
  go_wp2_with fail
  refine (HC.out _ HR.out).mono ?_
  rintro e w1 ⟨u, rfl, hu, hx⟩
  have HX := hd hx
  obtain ⟨A1, c1, rfl, hR⟩ := hu.form
  have hRd := hd (OwnB.rd hR.out)
  obtain ⟨a1, rfl, hc⟩ := RdB.getD hRd (k := N - 1) (by omega)
  clear hu hx hR hRd
  have hwr : IntKind.i64.wrap ((N : Int) - 1) = (N : Int) - 1 := IntWalk.i64_in _ (by omega)
  rw [hgl]
  generalize L.getD (N - 1) false = q at *
  go_wp2
  go_ret
  exact RetX.mk (by rw [HV.out]; rfl) HX.out
end Go.Proofs.Ytjeeffmpfdhppaa
