import Derived.Test.YtbdcomkbpapcaaaGreatGfI
import Derived.Test.YtbdcomkbpapcaaaGreatMkB
/-
  Greatest families, the program's side: what is allowed, open variables, marks, what a list must have for an assignment. Conditions: at most 60 clauses of literals within 12, at most six variables.
-/

namespace Go.Proofs.YtbdcomkbpapcaaaGreat
open Go.RowKit Seed
theorem enters_allowed1 : Enters 70 := fun args w => by kernel_rfl
theorem i_allowed1 (c a : List Int) (q : Nat) (u av : Value) (b4 b5 : Addr) (w : World) (h : RdI w u c) (k4 : w.cell? b4 = some (.int .i64 (q : Int))) (k5 : w.cell? b5 = some av) (ha : RdI w av a) (hl : c.length ≤ 1000000) (hl' : a.length ≤ 1000000) (hlit : Hid (∀ l ∈ c, -12 ≤ l ∧ l ≤ 12)) :
    Calls Tryz.prog 70 (#[u] ++ #[.pointer (some b4), .pointer (some b5)]) w (RetX w (.bool (falP q a c))) := by
  have HV := hd (i_clauseValue c a u av w h ha hl hl' hlit)
  obtain ⟨A, d, rfl, -⟩ := h.form
  obtain ⟨B, e, rfl, -⟩ := ha.form
  clear h ha
  show Calls Tryz.prog 70 #[.slice A c.length d, .pointer (some b4), .pointer (some b5)] w (RetX w (.bool (falP q a c)))
  by_cases hc : c.length ≤ q
  · have hc' : (c.length : Int) ≤ (q : Int) := by omega
    have HF : Hid (falP q a c = decide (valG a (-1) c < 0)) := hd (by unfold falP; rw [decide_eq_true hc]; rfl)
    rw [HF.out]
    generalize valG a (-1) c = z at *
    by_cases hz : z < 0
    · rw [decide_eq_true hz]
      go_enter Tryz.func70, Tryz.ntmps70
      go_wp2_with fail
      refine HV.out.mono ?_
      rintro e w1 ⟨rfl, rfl⟩
      go_wp2
      go_ret
      exact RetX.mk (by simp [hz]) (Ext.refl _)
    · rw [decide_eq_false hz]
      go_enter Tryz.func70, Tryz.ntmps70
      go_wp2_with fail
      refine HV.out.mono ?_
      rintro e w1 ⟨rfl, rfl⟩
      go_wp2
      go_ret
      exact RetX.mk (by simp; omega) (Ext.refl _)
  · have hc' : ¬ (c.length : Int) ≤ (q : Int) := by omega
    have HF : Hid (falP q a c = false) := hd (by unfold falP; rw [decide_eq_false hc]; rfl)
    rw [HF.out]
    go_enter Tryz.func70, Tryz.ntmps70
    go_wp2
    go_ret
    exact RetX.mk rfl (Ext.refl _)
theorem cell_b (w : World) (o : Obj) (x : Value) (e : TypeId) (h : o = .cells #[x] e) : (w.alloc o).cell? ⟨w.heap.size, 0, none⟩ = some x := by
  subst h
  have h := heap_n1 w (.cells #[x] e)
  simp only [World.cell?]
  rw [h]
  rfl
set_option maxHeartbeats 800000 in
theorem i_allowed (f : Cnf) (v av : Value) (q : Nat) (a : List Int) (w : World) (h : Rd_Cnf w v f) (hr : RdI w av a) (hl : f.cs.length ≤ 60) (hc : Hid (∀ c ∈ f.cs, c.length ≤ 1000000 ∧ ∀ l ∈ c, -12 ≤ l ∧ l ≤ 12)) (hla : a.length ≤ 1000000) (hq : q ≤ 6) :
    Calls Tryz.prog 53 #[v, .int .i64 (q : Int), av] w (RetX w (.bool (alwB f.cs q a))) := by
  obtain ⟨vc, rfl, hC⟩ := h
  have HC := hd hC
  have HA := hd hr
  obtain ⟨A, c, rfl, -⟩ := hC.form
  obtain ⟨B, d, rfl, -⟩ := hr.form
  clear hC hr
  obtain ⟨n, cs⟩ := f
  simp only at *
  by_cases hlen : a.length ≤ q + 1
  · have hN : (a.length : Int) ≤ (q : Int) + 1 := by omega
    obtain ⟨p, hp⟩ : ∃ p, anyL (falP q a) cs = p := ⟨_, rfl⟩
    have HE : Hid (alwB cs q a = !p) := hd (by unfold alwB; rw [decide_eq_true hlen, hp]; rfl)
    rw [HE.out]
    have X3 : Ext w (((w.alloc (.cells #[.int .i64 n, .slice A cs.length c] 28)).alloc (.cells #[.int .i64 (q : Int)] 3)).alloc (.cells #[.slice B a.length d] 37)) := (((Ext.refl w).alloc _).alloc _).alloc _
    have K4 : (((w.alloc (.cells #[.int .i64 n, .slice A cs.length c] 28)).alloc (.cells #[.int .i64 (q : Int)] 3)).alloc (.cells #[.slice B a.length d] 37)).cell? ⟨w.heap.size + 1, 0, none⟩ = some (.int .i64 (q : Int)) := by
      have h := cell_b (w.alloc (.cells #[.int .i64 n, .slice A cs.length c] 28)) _ (.int .i64 (q : Int)) 3 rfl
      rw [World.size_alloc] at h
      exact (Ext.new _ _).cell h
    have K5 : (((w.alloc (.cells #[.int .i64 n, .slice A cs.length c] 28)).alloc (.cells #[.int .i64 (q : Int)] 3)).alloc (.cells #[.slice B a.length d] 37)).cell? ⟨w.heap.size + 1 + 1, 0, none⟩ = some (.slice B a.length d) := by
      have h := cell_b ((w.alloc (.cells #[.int .i64 n, .slice A cs.length c] 28)).alloc (.cells #[.int .i64 (q : Int)] 3)) _ (.slice B a.length d) 37 rfl
      rw [World.size_alloc, World.size_alloc] at h
      exact h
    have HQ := hd (rtx (slices_ContainsFuncS cs (.slice A cs.length c) 70 #[.pointer (some ⟨w.heap.size + 1, 0, none⟩), .pointer (some ⟨w.heap.size + 1 + 1, 0, none⟩)] (falP q a) _ (HC.out.ext X3) (by omega) enters_allowed1 (hd fun y hy u w' hx hu => i_allowed1 y a q u _ _ _ w' hu (hx.cell K4) (hx.cell K5) (HA.out.ext (X3.trans hx)) (hc.out y hy).1 hla (hd (hc.out y hy).2))) (hd hp))
    have HX3 := hd X3
    clear hp X3 K4 K5
    go_enter Tryz.func53, Tryz.ntmps53
    go_wp2_with fail
    refine HQ.out.mono ?_
    rintro e w1 ⟨rfl, hx1⟩
    have X1 := hd (HX3.out.trans hx1)
    clear hx1
    cases p
    all_goals
      go_wp2
      go_ret
      exact RetX.mk rfl X1.out
  · have hN : ¬ (a.length : Int) ≤ (q : Int) + 1 := by omega
    have HE : Hid (alwB cs q a = false) := hd (by unfold alwB; rw [decide_eq_false hlen]; rfl)
    rw [HE.out]
    go_enter Tryz.func53, Tryz.ntmps53
    go_wp2
    go_ret
    exact RetX.mk rfl ((((Ext.refl w).alloc _).alloc _).alloc _)
theorem rdI_belowG {w w1 w' : World} {v : Value} {xs : List Int} {B : Nat} (h : RdI w v xs) (hx : Ext w w1) (hb : Below B w1 w') (hB : w.heap.size ≤ B) : RdI w' v xs :=
  Rd.keep h fun p _ hu => (hb.cell (Nat.lt_of_lt_of_le (World.block_lt_of_cell? w p hu) hB)).trans (hx.cell hu)
theorem enters_openVars1 : Enters 81 := fun args w => by kernel_rfl
theorem rdI_lit1 {w : World} {b : Nat} {x : Int} (h : w.heap[b]? = some (.cells #[.int .i64 x] 3 (0, 0))) : RdI w (.slice (some ⟨b, 0, none⟩) 1 1) [x] := rdI_at h
theorem i_openVars1 (a : List Int) (x : Int) (av : Value) (b : Addr) (w : World) (k : w.cell? b = some av) (ha : RdI w av a) (hl : a.length ≤ 1000000) (hx : 1 ≤ x ∧ x ≤ 12) :
    Calls Tryz.prog 81 (#[.int .i64 x] ++ #[.pointer (some b)]) w (RetX w (.bool (!opnB a x))) := by
  have HC := hd (i_firstOpen [x] a _ av _ (rdI_lit1 (heap_n1 w _)) (ha.ext (Ext.new w (.cells #[.int .i64 x] 3))) (by simp) hl (hd fun y hy => by obtain rfl := List.mem_singleton.1 hy; omega))
  have hk := (Ext.new w (.cells #[.int .i64 x] 3)).cell k
  obtain ⟨B, d, rfl, -⟩ := ha.form
  clear ha k
  obtain ⟨p, hp⟩ : ∃ p, opnB a x = p := ⟨_, rfl⟩
  have HF : Hid (fopG a [x] = if p then x else 0) := hd (by unfold fopG fopG; rw [hp])
  rw [hp]
  rw [HF.out] at HC
  clear hp HF
  show Calls Tryz.prog 81 #[.int .i64 x, .pointer (some b)] w (RetX w (.bool (!p)))
  cases p
  · rw [if_neg (by decide)] at HC
    go_enter Tryz.func81, Tryz.ntmps81
    go_wp2_with fail
    refine HC.out.mono ?_
    rintro e w1 ⟨rfl, rfl⟩
    go_wp2
    go_ret
    exact RetX.mk rfl (Ext.new _ _)
  · rw [if_pos rfl] at HC
    have hx0 : ¬ x = 0 := by omega
    go_enter Tryz.func81, Tryz.ntmps81
    go_wp2_with fail
    refine HC.out.mono ?_
    rintro e w1 ⟨rfl, rfl⟩
    go_wp2
    go_ret
    exact RetX.mk (by simp [hx0]) (Ext.new _ _)
theorem i_openVars (n : Nat) (a : List Int) (av : Value) (w : World) (ha : RdI w av a) (hn : n ≤ 6) (hl : a.length ≤ 1000000) :
    Calls Tryz.prog 58 #[.int .i64 (n : Int), av] w (RetI w 3 ((seqI 1 n).filter (opnB a))) := by
  have HA := hd ha
  obtain ⟨B, d, rfl, -⟩ := ha.form
  clear ha
  go_enter Tryz.func58, Tryz.ntmps58
  go_wp2_with fail
  refine (i_upTo n _ (by omega)).mono ?_
  rintro e w1 ⟨u, rfl, hu, hx1⟩
  have HU := hd hu
  have X1 := hd ((Ext.new _ _).trans hx1)
  have K1 := hx1.cell (cell_b w _ (.slice B a.length d) 37 rfl)
  have hsz : w.heap.size + 1 ≤ w1.heap.size := by have := hx1.size; rwa [World.size_alloc] at this
  have HS1 : Hid (∀ x ∈ seqI 1 n, 1 ≤ x ∧ x ≤ 12) := hd fun x hx => by
    obtain ⟨j, hj, rfl⟩ := List.mem_map.1 hx
    have := List.mem_range.1 hj
    omega
  have HFE : Hid ((seqI 1 n).filter (fun x => !(fun x => !opnB a x) x) = (seqI 1 n).filter (opnB a)) := hd (by congr 1; funext x; simp)
  have HD := hd (slices_DeleteFuncX (seqI 1 n) u 81 #[.pointer (some ⟨w.heap.size, 0, none⟩)] (fun x => !opnB a x) w1 _ (w.heap.size + 1) HU.out (by simp [seqI]; omega) (by simp) hsz enters_openVars1 (hd fun x hx w' hb => i_openVars1 a x (.slice B a.length d) ⟨w.heap.size, 0, none⟩ w' ((hb.cell (by simp)).trans K1) (rdI_belowG HA.out X1.out hb (by omega)) hl (HS1.out x hx)))
  rw [HFE.out] at HD
  have HXE := hd hsz
  clear hu hx1 K1 hsz
  go_wp2_with fail
  refine HD.out.mono ?_
  rintro e w2 ⟨u2, rfl, hu2, hg2, -⟩
  go_wp2
  go_ret
  exact ⟨_, rfl, own_rebase hu2 (by simp), X1.out.grown hg2 X1.out.size (fun g hg => by have := ownI_ge HU.out g hg; simp at this; omega)⟩
/-- Flags by the codes of a list. -/
def tellB (bs : List Bool) (c : Nat) : Bool := bs.getD c false
theorem tells_nil (n N : Nat) : Tells n (tellB (List.replicate N false)) [] := fun b _ => by
  unfold tellB
  rw [List.getD_eq_getElem?_getD, List.getElem?_replicate]
  split <;> rfl
theorem tells_snoc {n : Nat} {bs : List Bool} {L : List (List Int)} {a : List Int} (h : Tells n (tellB bs) L) (ha : Ris (n : Int) a) (hc : codeA a < bs.length) : Tells n (tellB (bs.set (codeA a) true)) (L ++ [a]) := fun b hb => by
  have h1 := h b hb
  unfold tellB at *
  rw [List.getD_eq_getElem?_getD] at *
  rw [List.getElem?_set]
  by_cases e : codeA a = codeA b
  · have e2 := code_inj n a b ha hb e
    subst e2
    rw [if_pos rfl, if_pos hc]
    simp
  · rw [if_neg e, h1]
    have : b ≠ a := fun e' => e (by rw [e'])
    simp [this]
set_option maxRecDepth 100000 in
set_option maxHeartbeats 1600000 in
theorem i_marks (n : Nat) (cs : List (List Int)) (L : List (List Int)) (v lv : Value) (w : World) (hv : Rd_Cnf w v ⟨(n : Int), cs⟩) (hL : RdSS w lv L) (hR : Hid (∀ b ∈ L, Ris (n : Int) b)) (hn : n ≤ 6) (hl : L.length ≤ 729) :
    Calls Tryz.prog 34 #[v, lv] w (fun e w' => ∃ g bs, e = .returned (.slice (some ⟨g, 0, none⟩) (3 ^ n) (3 ^ n)) ∧ bs.length = 3 ^ n ∧ OwnB w' w.heap.size 4 (.slice (some ⟨g, 0, none⟩) (3 ^ n) (3 ^ n)) bs ∧ Tells n (tellB bs) L ∧ Ext w w') := by
  obtain ⟨A, c, rfl⟩ := hv.form
  obtain ⟨B, d, rfl, h1, h2, ha⟩ := hL.form
  have hp := pow36 hn
  have HPW := hd (fun w' => i_power3 n w' (by omega))
  have HCL : Hid (∀ b ∈ L, codeA b < 3 ^ n) := hd fun b hb => code_lt n b (hR.out b hb)
  simp only at *
  clear hv hL
  obtain ⟨N, hN⟩ : ∃ N, 3 ^ n = N := ⟨_, rfl⟩
  rw [hN] at HPW HCL hp ⊢
  clear hN
  go_enter Tryz.func34, Tryz.ntmps34
  go_wp2_with fail
  refine (HPW.out _).mono ?_
  rintro e w1 ⟨rfl, rfl⟩
  go_wp2_with (at_make; refine mkB (n := N) _ rfl _ _ rfl rfl rfl (by omega) ?_; intro w2 hown2 hx2)
  rw [World.size_alloc] at hown2
  have X2 := hd ((Ext.new _ _).trans hx2)
  have HO2 := hd hown2
  clear hown2 hx2
  go_loopw [14] (fun i wr => ∃ (k : Nat) (bs : List Bool), k ≤ L.length ∧ i = .int .i64 (k : Int) ∧ Hid (bs.length = N) ∧ OwnB wr (w.heap.size + 1) 4 (.slice (some ⟨w.heap.size + 1, 0, none⟩) N N) bs ∧ Hid (Tells n (tellB bs) (L.take k)) ∧ Ext w wr) (fun i _ => L.length - (intOf i).toNat)
  case atStart => exact ⟨0, List.replicate N false, by omega, rfl, hd (List.length_replicate), HO2.out, hd (by rw [List.take_zero]; exact tells_nil n N), X2.out⟩
  case round =>
    clear HO2 X2
    obtain ⟨k, bs, hk, rfl, HBL, ho, HT, hx⟩ := hrel
    have HO := hd ho
    have HX := hd hx
    clear ho hx
    by_cases hlt : k < L.length
    · obtain ⟨a1, u, rfl, hc0, hr0⟩ := RdSS.at_ ha hlt
      have hc1 := HX.out.cell hc0
      have HRD := hd (hr0.ext HX.out)
      have HYR := hd (hR.out _ (List.getElem_mem hlt))
      have hcl := HCL.out _ (List.getElem_mem hlt)
      have HTK : Hid (L.take (k + 1) = L.take k ++ [L[k]]) := hd (List.take_succ_eq_append_getElem hlt)
      clear hc0 hr0
      generalize L[k] = y at *
      obtain ⟨A3, c3, rfl, -⟩ := HRD.out.form
      have HC := hd (i_codeOf n y _ wr HRD.out HYR.out hn)
      have HT2 : Hid (Tells n (tellB (bs.set (codeA y) true)) (L.take (k + 1))) := hd (by rw [HTK.out]; exact tells_snoc HT.out HYR.out (by rw [HBL.out]; exact hcl))
      generalize codeA y = C at *
      obtain ⟨⟨u0, hs1⟩, hs2, hs3⟩ := ownB_store HO.out HBL.out hcl
      have HO3 := hd (hs3.out true)
      have HX3 : Hid (Ext w (wr.setCell ⟨w.heap.size + 1, C, none⟩ (.bool true))) := hd (HX.out.setCell (by simp) _)
      have HBL3 : Hid ((bs.set C true).length = N) := hd (by rw [List.length_set]; exact HBL.out)
      clear hs3
      have hC1 : (0 : Int) ≤ (C : Int) := by omega
      have hC2 : (C : Int) < (N : Int) := by omega
      go_wp2_with fail
      refine HC.out.mono ?_
      rintro e w5 ⟨rfl, rfl⟩
      go_wp2
      go_roundw
      case rel => exact ⟨k + 1, bs.set C true, by omega, by go_num, HBL3, HO3.out, HT2, HX3.out⟩
      case measure => simp [intOf]; omega
    · obtain rfl : k = L.length := by omega
      have HT2 : Hid (Tells n (tellB bs) L) := hd (by have := HT.out; rwa [List.take_length] at this)
      go_wp2
      go_ret
      exact ⟨_, bs, rfl, HBL.out, own_rebase HO.out (by omega), HT2.out, HX.out⟩
end Go.Proofs.YtbdcomkbpapcaaaGreat
