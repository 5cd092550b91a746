/-
  CircuitOfFormula, the reference's side. Condition: none.
-/
import Derived.Test.YtmfgcpeddfbngaaCofP
import Derived.IntWalk
namespace Go.Proofs.Ytmfgcpeddfbngaa
open Go.RowKit Go.Sort
/-- An append to a slice of the call's own leaves a row of the call's own and all old blocks but one. -/
theorem app_frame {b0 m : Nat} {w2 wr w4 : World} {o o1 : Value} {N lo : Nat} {X : List Value} {e : TypeId} (hm : m = w2.heap.size) (h0 : b0 < m) (hG : w2.grownBy wr (some b0)) (hb : ∀ g, o.ownBlock = some g → g = b0 ∨ m < g) (hs : m < wr.heap.size)
    (hA : Own wr lo e 1 (.slice (some ⟨m, 0, none⟩) N N) N X) (hg4 : wr.grownBy w4 o.ownBlock) (hb4 : o1.ownBlock = o.ownBlock ∨ o1.ownBlock = some (wr.heap.size + 1)) :
    w2.grownBy w4 (some b0) ∧ (∀ g, o1.ownBlock = some g → g = b0 ∨ m < g) ∧ Own w4 lo e 1 (.slice (some ⟨m, 0, none⟩) N N) N X ∧ m < w4.heap.size := by
  refine ⟨gb_step hG hg4 fun g hg => ?_, fun g hg => ?_, World.ownsRow.kept hA hg4 (.inr fun e => ?_), Nat.lt_of_lt_of_le hs hg4.size⟩
  · rcases hb g hg with h | h
    · exact .inl h
    · exact .inr (by omega)
  · rcases hb4 with h | h
    · rw [h] at hg; exact hb g hg
    · rw [h] at hg
      injection hg with hg
      exact .inr (by omega)
  · have := hb m e.symm
    omega
theorem OwnG.form2 {w : World} {lo n : Nat} {v : Value} {gs : List Gat} (h : OwnG w lo v gs) (hn : gs.length = n) : ∃ A c, v = .slice A n c := by
  obtain ⟨A, c, e⟩ := h.form
  exact ⟨A, c, by rw [e, hn]⟩
/-- A store into the row leaves the other slice and all old blocks. -/
theorem set_frame {b0 m k : Nat} {w2 w4 : World} {o : Value} {lo n : Nat} {X : List Value} {e : TypeId} {s : Nat} (hm : m = w2.heap.size) (h0 : b0 < m) (hG : w2.grownBy w4 (some b0)) (hb : ∀ g, o.ownBlock = some g → g = b0 ∨ m < g)
    (hO : Own w4 lo e s o n X) (u : Value) : w2.grownBy (w4.setCell ⟨m, k, none⟩ u) (some b0) ∧ Own (w4.setCell ⟨m, k, none⟩ u) lo e s o n X := by
  have hs : w4.grownBy (w4.setCell ⟨m, k, none⟩ u) (some m) := grown_set (grown_refl _ _) _ _
  refine ⟨gb_step hG hs fun g hg => ?_, World.ownsRow.kept hO hs (.inr fun e => ?_)⟩
  · injection hg with hg
    exact .inr (by omega)
  · have := hb m e
    omega
set_option maxRecDepth 100000 in
set_option maxHeartbeats 25600000 in
theorem s_CircuitOfFormula (s : ByteArray) (w : World) (_ : s.size ≤ 1048576) : Calls Try.prog 13 #[.string s] w (RetG2 w (circV s) (isF s)) := by
  have HO0 : Hid (OwnG (w.alloc (.cells #[] 59)) w.heap.size (.slice (some ⟨w.heap.size, 0, none⟩) 0 0) []) := hd (own_lit w _ 59 3 #[] 0 (Nat.le_refl _) (Nat.zero_le _) rfl)
  obtain ⟨i0, hi, hz0, hz1, hz2⟩ := info_parts info_int
  have HI := hd hi
  have HZ0 := hd hz0
  have HZ1 := hd hz1
  have HZ2 := hd hz2
  clear hi hz0 hz1 hz2
  cases hg : goodF s with
  | none =>
    have HF : Hid (isF s = false) := hd (by unfold isF; rw [hg]; rfl)
    have HV : Hid (circV s = []) := hd (by unfold circV; rw [hg])
    clear hg
    go_enter Try.func13, Try.ntmps13
    go_wp2_with fail
    refine (rt (s_l22Good s _) HF).mono ?_
    rintro e w1 ⟨rfl, rfl⟩
    go_wp2
    go_ret2
    exact ⟨_, by rw [HF.out]; rfl, by rw [HV.out]; exact ⟨HO0.out, own_lt HO0.out⟩, Ext.new _ _⟩
  | some f =>
    have HF : Hid (isF s = true) := hd (by unfold isF; rw [hg]; rfl)
    have HV : Hid (circV s = circF f) := hd (by unfold circV; rw [hg])
    obtain ⟨h1, h2, h3⟩ := goodF_iff.1 hg
    obtain rfl := strF_of h2
    have hl : (txt f).length ≤ 80 := by rw [strF_size] at h1; exact h1
    have hsl := subs_len f
    have hpl := partsB_len f
    have HPM := hd (fun x hx => partsT_mem h3 (x := x) hx)
    obtain ⟨wa, hwa⟩ : ∃ wa : World, wa = w.alloc (.cells #[] 59) := ⟨_, rfl⟩
    have hsz : wa.heap.size = w.heap.size + 1 := by rw [hwa]; simp
    have HA0 : Hid (OwnS ((w.alloc (.cells #[] 59)).alloc (.cells #[] 9)) (w.heap.size + 1) (.slice (some ⟨w.heap.size + 1, 0, none⟩) 0 0) []) := hd (by
      rw [← hwa, ← hsz]; exact ownS_at (heap_alloc_new wa _) (Nat.le_refl _))
    have HALL := hd (s_l22All f h3 hl [] (.slice (some ⟨w.heap.size + 1, 0, none⟩) 0 0) _ (w.heap.size + 1) HA0.out (by simp) (by simp; omega))
    have HAN := hd (allL_nil f)
    have HCF : Hid (circF f = (runC ((partsB f).map treeB) (partsB f).length).1) := hd (by unfold circF; rw [partsT_len]; rfl)
    clear hg h1 h2 h3 hwa hsz wa HA0
    go_enter Try.func13, Try.ntmps13
    go_wp2_with fail
    refine (rt (s_l22Good _ _) HF).mono ?_
    rintro e w1 ⟨rfl, rfl⟩
    go_wp2_with fail
    refine HALL.out.mono ?_
    rintro e w2 ⟨u, rfl, hu, hx⟩
    rw [HAN.out] at hu
    have HX2 := hd (((Ext.new w (.cells #[] 59)).alloc (.cells #[] 9)).trans hx)
    have HO2 := hd (own_ext HO0.out ((Ext.new _ (.cells #[] 9)).trans hx))
    have hw2 : w.heap.size + 1 < w2.heap.size := by have := hx.size; simp at this; omega
    have hrd : Rd_StringS w2 u (partsB f) := own_rd hu
    obtain ⟨A, c, rfl, hc1, hc2, -⟩ := hrd.form
    unfold maxLen at hc2
    have HL := hd hu
    generalize partsB f = L at *
    clear hu hx hrd HALL HAN HO0
    generalize hN : L.length = N at *
    have HN := hd hN
    clear hN
    have hN80 : N ≤ 80 := by omega
    go_wp2_with (
      at_make
      refine wpList_make_full _ rfl _ _ 55 rfl w2.heap.size 3 i0 (.int .i64 0) 1 Try.underlying55 HI.out HZ0.out HZ1.out _ _ _ _ N rfl rfl rfl rfl (by rw [HZ2.out]; omega) (by unfold maxLen; omega) (Nat.le_refl _) ?_
      intro w3 hown1 hgrow1)
    have hE : Ext w2 w3 := (Ext.refl w2).grown hgrow1 (Nat.le_refl _) (by simp)
    have hZl : (madeCells (Value.int .i64 0).cells (N * 1)).toList.length = N := by simp [size_madeCells]
    generalize (madeCells (Value.int .i64 0).cells (N * 1)).toList = Z at *
    have HZL := hd hZl
    have HE := hd hE
    have HM1 := hd hown1
    have HO3 := hd (own_ext HO2.out hE)
    clear hgrow1 hZl hE hown1 HI HZ0 HZ1 HZ2 HO2
    obtain ⟨P, hP⟩ : ∃ P, (runC (L.map treeB) N).2.map (·.2) = P := ⟨_, rfl⟩
    have HP := hd hP
    have hTl : (L.map treeB).length = N := by rw [List.length_map]; exact HN.out
    have hPl : P.length = N := by rw [← hP, List.length_map, (runC_len _ N (by omega)).2]
    have HPL := hd hPl
    have HTL := hd hTl
    clear hP hPl hTl
    go_loopw [7, 4, 8, 9, 10, 11, 12, 13] (fun i o _ _ _ _ _ _ wr => ∃ k : Nat, k ≤ N ∧ i = .int .i64 (k : Int) ∧ OwnG wr w.heap.size o (runC (L.map treeB) k).1 ∧ (∀ g, o.ownBlock = some g → g = w.heap.size ∨ w2.heap.size < g) ∧
      Own wr w2.heap.size 3 1 (.slice (some ⟨w2.heap.size, 0, none⟩) N N) N ((ints P).take k ++ Z.drop k) ∧ w2.grownBy wr (some w.heap.size)) (fun i _ _ _ _ _ _ _ _ => N - (intOf i).toNat)
    case atStart =>
      refine ⟨0, by omega, rfl, HO3.out, fun g hg => .inl ?_, by simpa using HM1.out, ⟨HE.out.os, HE.out.tape, HE.out.output, HE.out.size, fun k hk _ => HE.out.block k hk⟩⟩
      cases hg; rfl
    case round =>
      clear HO3 HM1 HE
      obtain ⟨k, hk, rfl, ho, hob, hat, hgb⟩ := hrel
      have HO := hd ho
      have HOB := hd hob
      have HAT := hd hat
      have HGB := hd hgb
      have hLr : OwnS wr (w.heap.size + 1) (.slice A N c) L := by
        have h' : Own w2 (w.heap.size + 1) 9 1 (.slice A N c) L.length (strs L) := HL.out
        exact World.ownsRow.kept h' hgb (.inr fun e => by have := (own_blocks h' _ e).1; omega)
      have HLR : Hid (Rd_StringS wr (.slice A N c) L) := hd (own_rd hLr)
      have hmw : w2.heap.size < wr.heap.size := (own_blocks hat _ rfl).2
      have hgl := (runC_len (L.map treeB) k (by rw [HTL.out]; exact hk)).1
      have HACL := hd (runC_len (L.map treeB) k (by rw [HTL.out]; exact hk)).2
      clear ho hob hat hgb hLr
      by_cases hlt : k < N
      · have hkL : k < L.length := by rw [HN.out]; exact hlt
        obtain ⟨a, rfl, hc0⟩ := Rd_StringS.at_ HLR hkL
        obtain ⟨hy1, hy2, hy3⟩ := HPM.out _ (List.getElem_mem hkL)
        have HY1 := hd hy1
        have HRS : Hid (runC (L.map treeB) (k + 1) = stepC (runC (L.map treeB) k) (treeB L[k])) := hd (by
          rw [runC_succ _ (by rw [HTL.out]; exact hlt), List.getElem_map])
        have HPAR : Hid (∀ w', Calls Try.prog 34 #[.string ⟨L[k].toArray⟩] w' (RetQ w' (.tuple #[.int .u8 (opF (treeB L[k])).toNat, .string ⟨(kA (treeB L[k])).toArray⟩, .string ⟨(kB (treeB L[k])).toArray⟩]))) := hd fun w' => by
          have := s_l22Parts (treeB L[k]) hy2 (by omega) w'
          rw [kidA_eq, kidB_eq] at this
          have e : (⟨L[k].toArray⟩ : ByteArray) = strF (treeB L[k]) := by unfold strF; rw [hy1]
          rw [e]
          exact this
        have HWF := hd hy2
        have HPK : Hid ((ints P)[k]? = some (.int .i64 (((runC (L.map treeB) k).1.length : Int) + (gatesOf (runC (L.map treeB) k).1.length (treeB L[k]) (lkB (runC (L.map treeB) k).2 (kA (treeB L[k]))) (lkB (runC (L.map treeB) k).2 (kB (treeB L[k])))).length - 1))) := hd (by
          have h1 := runC_take (L.map treeB) (k + 1) (by rw [HTL.out]; omega) N (by omega) (by rw [HTL.out]; exact Nat.le_refl _)
          rw [HRS.out, stepC] at h1
          have h2 := congrArg (fun l => l[k]?) h1
          simp only at h2
          rw [List.getElem?_take_of_lt (by omega), List.getElem?_append_right (by rw [HACL.out]; exact Nat.le_refl _), HACL.out, Nat.sub_self] at h2
          rw [← HP.out, ints, List.getElem?_map, List.getElem?_map, h2]
          rfl)
        have HJ : Hid (∀ j, j < k → ∃ (t : Bs) (p : Int), wr.cell? (a.add j) = some (.string ⟨t.toArray⟩) ∧ wr.cell? ⟨w2.heap.size, j, none⟩ = some (.int .i64 p) ∧ (runC (L.map treeB) k).2[j]? = some (t, p)) := hd fun j hj => by
          have hjL : j < L.length := by rw [HN.out]; omega
          obtain ⟨a', ha', hcj⟩ := Rd_StringS.at_ HLR hjL
          obtain rfl := Option.some.inj ha'
          have hrt := runC_take (L.map treeB) k (by rw [HTL.out]; exact hk) N hk (by rw [HTL.out]; exact Nat.le_refl _)
          have htx := runC_texts (L.map treeB) k (by rw [HTL.out]; exact hk)
          have hlen : j < (runC (L.map treeB) k).2.length := by rw [HACL.out]; exact hj
          have e1 : (runC (L.map treeB) k).2[j]? = some (runC (L.map treeB) k).2[j] := List.getElem?_eq_getElem hlen
          have e2 : (runC (L.map treeB) k).2[j].1 = L[j] := by
            have h2 := congrArg (fun l => l[j]?) htx
            rw [List.getElem?_map, List.getElem?_map, e1, List.getElem?_take_of_lt hj, List.getElem?_map, List.getElem?_eq_getElem hjL] at h2
            have h3 : (runC (L.map treeB) k).2[j].1 = txt (treeB L[j]) := Option.some.inj h2
            rw [h3, (HPM.out _ (List.getElem_mem hjL)).1]
          have e3 : (ints P)[j]? = some (.int .i64 (runC (L.map treeB) k).2[j].2) := by
            have h2 := congrArg (fun l => l[j]?) hrt
            rw [List.getElem?_take_of_lt hj, e1] at h2
            rw [← HP.out, ints, List.getElem?_map, List.getElem?_map, h2]
            rfl
          have hcat := World.ownsRow.cellAt HAT.out j (by omega)
          rw [List.getElem?_append_left (by simp [HPL.out]; omega), List.getElem?_take_of_lt hj, e3] at hcat
          exact ⟨L[j], _, hcj, hcat, by rw [e1]; exact congrArg some (Prod.ext e2 rfl)⟩
        clear hy1 hy2 hy3
        generalize L[k] = x at *
        generalize treeB x = y at *
        clear hkL
        obtain ⟨gs, hgs⟩ : ∃ gs, (runC (L.map treeB) k).1 = gs := ⟨_, rfl⟩
        obtain ⟨acc, hacc⟩ : ∃ acc, (runC (L.map treeB) k).2 = acc := ⟨_, rfl⟩
        have HST : Hid ((runC (L.map treeB) (k + 1)).1 = gs ++ gatesOf gs.length y (lkB acc (kA y)) (lkB acc (kB y))) := hd (by rw [HRS.out, stepC, hgs, hacc])
        rw [hgs] at HO HPK hgl
        rw [hacc] at HPK HJ HACL
        have hlb : (0 ≤ lkB acc (kA y) ∧ lkB acc (kA y) ≤ 1000) ∧ (0 ≤ lkB acc (kB y) ∧ lkB acc (kB y) ≤ 1000) := by
          have hb := runC_bd (L.map treeB) (by rw [HTL.out]; omega) k (by rw [HTL.out]; exact hk)
          rw [hacc] at hb
          exact ⟨lkB_bd acc _ hb, lkB_bd acc _ hb⟩
        clear hgs hacc HRS
        obtain ⟨on, hon⟩ : ∃ on : Nat, (opF y).toNat = on := ⟨_, rfl⟩
        obtain ⟨ab, hab⟩ : ∃ ab : ByteArray, ⟨(kA y).toArray⟩ = ab := ⟨_, rfl⟩
        obtain ⟨bb, hbb⟩ : ∃ bb : ByteArray, ⟨(kB y).toArray⟩ = bb := ⟨_, rfl⟩
        have hab2 : ab.toList = kA y := by rw [← hab, ByteArray.toList_eq]
        have hbb2 : bb.toList = kB y := by rw [← hbb, ByteArray.toList_eq]
        have HAB := hd hab2
        have HBB := hd hbb2
        rw [hon, hab, hbb] at HPAR
        clear hab hbb hab2 hbb2
        have hk0 : (0 : Int) ≤ (k : Int) := by omega
        have hkN : (k : Int) < (N : Int) := by omega
        go_wp2_with fail
        refine (HPAR.out _).mono ?_
        rintro e w3 ⟨rfl, nq, rfl⟩
        have HO3 := hd (own_ext HO.out (ext_drewN wr nq))
        have HAT3 := hd (own_ext HAT.out (ext_drewN wr nq))
        have HGB3 := hd (grown_trans HGB.out (grown_ext (ext_drewN wr nq) _))
        have HJ3 : Hid (∀ j, j < k → ∃ (t : Bs) (p : Int), (wr.drewN nq).cell? (a.add j) = some (.string ⟨t.toArray⟩) ∧ (wr.drewN nq).cell? ⟨w2.heap.size, j, none⟩ = some (.int .i64 p) ∧ acc[j]? = some (t, p)) := hd (fun j hj => by
          obtain ⟨t, p, h1, h2, h3⟩ := HJ.out j hj
          exact ⟨t, p, (ext_drewN wr nq).cell h1, (ext_drewN wr nq).cell h2, h3⟩)
        have hmw3 : w2.heap.size < (wr.drewN nq).heap.size := Nat.lt_of_lt_of_le hmw (ext_drewN wr nq).size
        clear HO HAT HGB HJ HLR hc0 hmw HPAR
        generalize wr.drewN nq = wq at *
        go_wp2
        go_loopw [13, 11, 12] (fun j x z w' => ∃ i : Nat, i ≤ k ∧ j = .int .i64 (i : Int) ∧ x = .int .i64 (lkB (acc.take i) (kA y)) ∧ z = .int .i64 (lkB (acc.take i) (kB y)) ∧ wq = w') (fun j _ _ _ => k - (intOf j).toNat)
        case atStart => exact ⟨0, by omega, rfl, rfl, rfl, rfl⟩
        case round =>
          obtain ⟨i, hi, rfl, rfl, rfl, rfl⟩ := hrel
          by_cases hlt2 : i < k
          · obtain ⟨t, p, hc1, hc2, hc3⟩ := HJ3.out i hlt2
            have HT : Hid (acc.take (i + 1) = acc.take i ++ [(t, p)]) := hd (by rw [List.take_add_one, hc3]; rfl)
            obtain ⟨tb, htb⟩ : ∃ tb : ByteArray, ⟨t.toArray⟩ = tb := ⟨_, rfl⟩
            have htb2 : tb.toList = t := by rw [← htb, ByteArray.toList_eq]
            obtain ⟨qa, hqa⟩ : ∃ q, (t == kA y) = q := ⟨_, rfl⟩
            obtain ⟨qb, hqb⟩ : ∃ q, (t == kB y) = q := ⟨_, rfl⟩
            have ea : (tb.toList == ab.toList) = qa := by rw [htb2, HAB.out, hqa]
            have eb : (tb.toList == bb.toList) = qb := by rw [htb2, HBB.out, hqb]
            have HXA : Hid (lkB (acc.take (i + 1)) (kA y) = if qa then p else lkB (acc.take i) (kA y)) := hd (by rw [HT.out, lkB_snoc]; dsimp only; rw [hqa])
            have HXB : Hid (lkB (acc.take (i + 1)) (kB y) = if qb then p else lkB (acc.take i) (kB y)) := hd (by rw [HT.out, lkB_snoc]; dsimp only; rw [hqb])
            rw [htb] at hc1
            clear htb htb2 hqa hqb hc3 HT
            have g1 : (0 : Int) ≤ (i : Int) := by omega
            have g2 : (i : Int) < (N : Int) := by omega
            have g3 : (i : Int) < (k : Int) := by omega
            obtain ⟨xa, hxa⟩ : ∃ xa, lkB (acc.take i) (kA y) = xa := ⟨_, rfl⟩
            obtain ⟨xb, hxb⟩ : ∃ xb, lkB (acc.take i) (kB y) = xb := ⟨_, rfl⟩
            rw [hxa] at HXA
            rw [hxb] at HXB
            simp only [hxa, hxb]
            clear hxa hxb
            cases qa <;> cases qb
            all_goals
              go_wp2
              go_roundw
              case rel => exact ⟨i + 1, by omega, by go_num, by rw [HXA.out]; rfl, by rw [HXB.out]; rfl, by first | rfl | trivial⟩
              case measure => simp [intOf]; omega
          · obtain rfl : i = k := by omega
            have htk : acc.take i = acc := List.take_of_length_le (by rw [HACL.out]; exact Nat.le_refl _)
            rw [htk]
            clear htk HJ3 HAB HBB
            obtain ⟨xa, hxa⟩ : ∃ xa, lkB acc (kA y) = xa := ⟨_, rfl⟩
            obtain ⟨xb, hxb⟩ : ∃ xb, lkB acc (kB y) = xb := ⟨_, rfl⟩
            rw [hxa, hxb] at hlb HST HPK
            rw [hxa, hxb]
            clear hxa hxb HACL
            obtain ⟨⟨hxa0, hxa1⟩, hxb0, hxb1⟩ := hlb
            obtain ⟨⟨u0, hci⟩, hfi, -⟩ := own_store HAT3.out (k := i) hlt
            have hm0 : w.heap.size < w2.heap.size := by omega
            obtain ⟨gn, hgn⟩ : ∃ gn, gs.length = gn := ⟨_, rfl⟩
            have HGN := hd hgn
            rw [hgn] at HST HPK hgl
            have hgl2 : gs.length ≤ 200 := by omega
            clear hgn hci hfi
            have hle : w.heap.size ≤ wq.heap.size := by omega
            cases y with
            | leaf c =>
              have hwf : isLf c = true := HWF.out
              have hon2 : c.toNat = on := hon
              rcases byte_cases c with ⟨_, hc | hc | ⟨hc1, hc2⟩⟩ | hc | hc | ⟨h, _⟩
              · obtain rfl : on = 48 := by omega
                have hc48 : c = 48 := u8_eq hc
                clear hon hon2 HWF hwf
                have HGS : Hid (gatesOf (gn : Int) (.leaf c) xa xb = [⟨3, 0, 0⟩]) := hd (by rw [hc48]; rfl)
                have HPK2 : Hid ((ints P)[i]? = some (.int .i64 ((gn : Nat) : Int))) := hd (by rw [HPK.out, HGS.out]; exact congrArg some (congrArg (Value.int .i64) (by simp)))
                rw [HGS.out] at HST
                clear HPK HGS
                go_wp2_with (at_builtin; refine appG wq (3) (0) (0) HO3.out rfl _ _ rfl (by rfl) (by rfl) rfl (by omega) hle ?_; intro u w4 hu hg4 hb4; obtain ⟨hG5, hB5, hA5, hs5⟩ := app_frame rfl hm0 HGB3.out HOB.out hmw3 HAT3.out hg4 hb4; obtain ⟨A2, c2, rfl⟩ := OwnG.form2 hu (n := gn + 1) (by rw [List.length_append, HGN.out]; rfl); obtain ⟨⟨u1, hc5⟩, hf5, hst⟩ := own_store hA5 (k := i) hlt; have HU := hd hu; have HG5 := hd hG5; have HB5 := hd hB5; clear hu hG5 hB5 hg4 hb4 hA5)
                go_roundw
                case rel =>
                  obtain ⟨hG7, hO7⟩ := set_frame (k := i) rfl hm0 HG5.out HB5.out HU.out (.int .i64 ((gn : Nat) : Int))
                  refine ⟨i + 1, by omega, by go_num, by rw [HST.out]; exact hO7, HB5.out, ?_, hG7⟩
                  rw [← splice_set HPK2.out (by rw [length_ints, HPL.out, HZL.out])]; exact hst.out _
                case measure => simp [intOf]; omega
              · obtain rfl : on = 49 := by omega
                have hc49 : c = 49 := u8_eq hc
                clear hon hon2 HWF hwf
                have HGS : Hid (gatesOf (gn : Int) (.leaf c) xa xb = [⟨2, 0, 0⟩]) := hd (by rw [hc49]; rfl)
                have HPK2 : Hid ((ints P)[i]? = some (.int .i64 ((gn : Nat) : Int))) := hd (by rw [HPK.out, HGS.out]; exact congrArg some (congrArg (Value.int .i64) (by simp)))
                rw [HGS.out] at HST
                clear HPK HGS
                go_wp2_with (at_builtin; refine appG wq (2) (0) (0) HO3.out rfl _ _ rfl (by rfl) (by rfl) rfl (by omega) hle ?_; intro u w4 hu hg4 hb4; obtain ⟨hG5, hB5, hA5, hs5⟩ := app_frame rfl hm0 HGB3.out HOB.out hmw3 HAT3.out hg4 hb4; obtain ⟨A2, c2, rfl⟩ := OwnG.form2 hu (n := gn + 1) (by rw [List.length_append, HGN.out]; rfl); obtain ⟨⟨u1, hc5⟩, hf5, hst⟩ := own_store hA5 (k := i) hlt; have HU := hd hu; have HG5 := hd hG5; have HB5 := hd hB5; clear hu hG5 hB5 hg4 hb4 hA5)
                go_roundw
                case rel =>
                  obtain ⟨hG7, hO7⟩ := set_frame (k := i) rfl hm0 HG5.out HB5.out HU.out (.int .i64 ((gn : Nat) : Int))
                  refine ⟨i + 1, by omega, by go_num, by rw [HST.out]; exact hO7, HB5.out, ?_, hG7⟩
                  rw [← splice_set HPK2.out (by rw [length_ints, HPL.out, HZL.out])]; exact hst.out _
                case measure => simp [intOf]; omega
              · obtain ⟨j, hj⟩ : ∃ j, on = 97 + j := ⟨on - 97, by omega⟩
                have hj5 : j ≤ 5 := by omega
                have hne : c ≠ 48 ∧ c ≠ 49 := ⟨fun e => by rw [e] at hc1; exact absurd hc1 (by decide), fun e => by rw [e] at hc1; exact absurd hc1 (by decide)⟩
                have hcj : (c.toNat : Int) - 97 + 1 = (j : Int) + 1 := by omega
                have g1 : ((on : Int) == 48) = false := by simp; omega
                have g2 : ((on : Int) == 49) = false := by simp; omega
                have g3 : ((on : Int) == 126) = false := by simp; omega
                have g4 : ((on : Int) == 38) = false := by simp; omega
                have g5 : ((on : Int) == 124) = false := by simp; omega
                have g6 : ((on : Int) == 62) = false := by simp; omega
                have g7 : IntKind.u8.wrap ((on : Int) - 97) = (j : Int) := by rw [hj]; simp [IntKind.wrap, IntKind.bits, IntKind.signed]; omega
                clear hon hon2 HWF hwf hj
                have HGS : Hid (gatesOf (gn : Int) (.leaf c) xa xb = [⟨1, (j : Int) + 1, 0⟩]) := hd (by show (if c = 48 then _ else if c = 49 then _ else _) = _; rw [if_neg hne.1, if_neg hne.2, hcj])
                have HPK2 : Hid ((ints P)[i]? = some (.int .i64 ((gn : Nat) : Int))) := hd (by rw [HPK.out, HGS.out]; exact congrArg some (congrArg (Value.int .i64) (by simp)))
                rw [HGS.out] at HST
                clear HPK HGS
                go_wp2_with (at_builtin; refine appG wq (1) ((j : Int) + 1) (0) HO3.out rfl _ _ rfl (by rfl) (by rfl) rfl (by omega) hle ?_; intro u w4 hu hg4 hb4; obtain ⟨hG5, hB5, hA5, hs5⟩ := app_frame rfl hm0 HGB3.out HOB.out hmw3 HAT3.out hg4 hb4; obtain ⟨A2, c2, rfl⟩ := OwnG.form2 hu (n := gn + 1) (by rw [List.length_append, HGN.out]; rfl); obtain ⟨⟨u1, hc5⟩, hf5, hst⟩ := own_store hA5 (k := i) hlt; have HU := hd hu; have HG5 := hd hG5; have HB5 := hd hB5; clear hu hG5 hB5 hg4 hb4 hA5)
                go_roundw
                case rel =>
                  obtain ⟨hG7, hO7⟩ := set_frame (k := i) rfl hm0 HG5.out HB5.out HU.out (.int .i64 ((gn : Nat) : Int))
                  refine ⟨i + 1, by omega, by go_num, by rw [HST.out]; exact hO7, HB5.out, ?_, hG7⟩
                  rw [← splice_set HPK2.out (by rw [length_ints, HPL.out, HZL.out])]; exact hst.out _
                case measure => simp [intOf]; omega
              · rw [u8_eq hc] at hwf; exact absurd hwf (by decide)
              · rw [u8_eq hc] at hwf; exact absurd hwf (by decide)
              · rw [h] at hwf; cases hwf
            | neg yy =>
              obtain rfl : on = 126 := by have h2 : (126 : UInt8).toNat = on := hon; rw [← h2]; rfl
              clear hon HWF
              have HGS : Hid (gatesOf (gn : Int) (.neg yy) xa xb = [⟨4, xa, 0⟩]) := hd rfl
              have HPK2 : Hid ((ints P)[i]? = some (.int .i64 ((gn : Nat) : Int))) := hd (by rw [HPK.out, HGS.out]; exact congrArg some (congrArg (Value.int .i64) (by simp)))
              rw [HGS.out] at HST
              clear HPK HGS
              go_wp2_with (at_builtin; refine appG wq (4) (xa) (0) HO3.out rfl _ _ rfl (by rfl) (by rfl) rfl (by omega) hle ?_; intro u w4 hu hg4 hb4; obtain ⟨hG5, hB5, hA5, hs5⟩ := app_frame rfl hm0 HGB3.out HOB.out hmw3 HAT3.out hg4 hb4; obtain ⟨A2, c2, rfl⟩ := OwnG.form2 hu (n := gn + 1) (by rw [List.length_append, HGN.out]; rfl); obtain ⟨⟨u1, hc5⟩, hf5, hst⟩ := own_store hA5 (k := i) hlt; have HU := hd hu; have HG5 := hd hG5; have HB5 := hd hB5; clear hu hG5 hB5 hg4 hb4 hA5)
              go_roundw
              case rel =>
                obtain ⟨hG7, hO7⟩ := set_frame (k := i) rfl hm0 HG5.out HB5.out HU.out (.int .i64 ((gn : Nat) : Int))
                refine ⟨i + 1, by omega, by go_num, by rw [HST.out]; exact hO7, HB5.out, ?_, hG7⟩
                rw [← splice_set HPK2.out (by rw [length_ints, HPL.out, HZL.out])]; exact hst.out _
              case measure => simp [intOf]; omega
            | bin oo y1 y2 =>
              have hop : isOp oo = true := (wf_bin HWF.out).1
              have hon2 : oo.toNat = on := hon
              rcases op_cases oo with ⟨_, hc | hc | hc⟩ | ⟨h, _⟩
              · obtain rfl : on = 38 := by omega
                have hoo : oo = 38 := u8_eq hc
                clear hon hon2 HWF hop
                have HGS : Hid (gatesOf (gn : Int) (.bin oo y1 y2) xa xb = [⟨5, xa, xb⟩]) := hd (by rw [hoo]; rfl)
                have HPK2 : Hid ((ints P)[i]? = some (.int .i64 ((gn : Nat) : Int))) := hd (by rw [HPK.out, HGS.out]; exact congrArg some (congrArg (Value.int .i64) (by simp)))
                rw [HGS.out] at HST
                clear HPK HGS
                go_wp2_with (at_builtin; refine appG wq (5) (xa) (xb) HO3.out rfl _ _ rfl (by rfl) (by rfl) rfl (by omega) hle ?_; intro u w4 hu hg4 hb4; obtain ⟨hG5, hB5, hA5, hs5⟩ := app_frame rfl hm0 HGB3.out HOB.out hmw3 HAT3.out hg4 hb4; obtain ⟨A2, c2, rfl⟩ := OwnG.form2 hu (n := gn + 1) (by rw [List.length_append, HGN.out]; rfl); obtain ⟨⟨u1, hc5⟩, hf5, hst⟩ := own_store hA5 (k := i) hlt; have HU := hd hu; have HG5 := hd hG5; have HB5 := hd hB5; clear hu hG5 hB5 hg4 hb4 hA5)
                go_roundw
                case rel =>
                  obtain ⟨hG7, hO7⟩ := set_frame (k := i) rfl hm0 HG5.out HB5.out HU.out (.int .i64 ((gn : Nat) : Int))
                  refine ⟨i + 1, by omega, by go_num, by rw [HST.out]; exact hO7, HB5.out, ?_, hG7⟩
                  rw [← splice_set HPK2.out (by rw [length_ints, HPL.out, HZL.out])]; exact hst.out _
                case measure => simp [intOf]; omega
              · obtain rfl : on = 124 := by omega
                have hoo : oo = 124 := u8_eq hc
                clear hon hon2 HWF hop
                have HGS : Hid (gatesOf (gn : Int) (.bin oo y1 y2) xa xb = [⟨6, xa, xb⟩]) := hd (by rw [hoo]; rfl)
                have HPK2 : Hid ((ints P)[i]? = some (.int .i64 ((gn : Nat) : Int))) := hd (by rw [HPK.out, HGS.out]; exact congrArg some (congrArg (Value.int .i64) (by simp)))
                rw [HGS.out] at HST
                clear HPK HGS
                go_wp2_with (at_builtin; refine appG wq (6) (xa) (xb) HO3.out rfl _ _ rfl (by rfl) (by rfl) rfl (by omega) hle ?_; intro u w4 hu hg4 hb4; obtain ⟨hG5, hB5, hA5, hs5⟩ := app_frame rfl hm0 HGB3.out HOB.out hmw3 HAT3.out hg4 hb4; obtain ⟨A2, c2, rfl⟩ := OwnG.form2 hu (n := gn + 1) (by rw [List.length_append, HGN.out]; rfl); obtain ⟨⟨u1, hc5⟩, hf5, hst⟩ := own_store hA5 (k := i) hlt; have HU := hd hu; have HG5 := hd hG5; have HB5 := hd hB5; clear hu hG5 hB5 hg4 hb4 hA5)
                go_roundw
                case rel =>
                  obtain ⟨hG7, hO7⟩ := set_frame (k := i) rfl hm0 HG5.out HB5.out HU.out (.int .i64 ((gn : Nat) : Int))
                  refine ⟨i + 1, by omega, by go_num, by rw [HST.out]; exact hO7, HB5.out, ?_, hG7⟩
                  rw [← splice_set HPK2.out (by rw [length_ints, HPL.out, HZL.out])]; exact hst.out _
                case measure => simp [intOf]; omega
              · obtain rfl : on = 62 := by omega
                have hoo : oo = 62 := u8_eq hc
                clear hon hon2 HWF hop
                have HGS : Hid (gatesOf (gn : Int) (.bin oo y1 y2) xa xb = [⟨4, xa, 0⟩, ⟨6, gn, xb⟩]) := hd (by rw [hoo]; rfl)
                have HPK2 : Hid ((ints P)[i]? = some (.int .i64 ((gn : Int) + 2 - 1))) := hd (by rw [HPK.out, HGS.out]; rfl)
                rw [HGS.out] at HST
                clear HPK HGS
                go_wp2_with (first | (at_builtin; refine appG wq (4) (xa) (0) HO3.out rfl _ _ rfl (by rfl) (by rfl) rfl (by omega) hle ?_; intro u w4 hu hg4 hb4; obtain ⟨hG5, hB5, hA5, hs5⟩ := app_frame rfl hm0 HGB3.out HOB.out hmw3 HAT3.out hg4 hb4; obtain ⟨A2, c2, rfl⟩ := OwnG.form2 hu (n := gn + 1) (by rw [List.length_append, HGN.out]; rfl); have HU := hd hu; have HG5 := hd hG5; have HB5 := hd hB5; have HA5 := hd hA5; clear hu hG5 hB5 hg4 hb4 hA5) | (at_builtin; refine appG w4 (6) (gn) (xb) HU.out rfl _ _ rfl (by rfl) (by rfl) rfl (by have := HGN.out; simp; omega) (by omega) ?_; intro u w5 hu hg5 hb5; obtain ⟨hG6, hB6, hA6, hs6⟩ := app_frame rfl hm0 HG5.out HB5.out hs5 HA5.out hg5 hb5; obtain ⟨A3, c3, rfl⟩ := OwnG.form2 hu (n := gn + 2) (by rw [List.length_append, List.length_append, HGN.out]; rfl); obtain ⟨⟨u1, hc5⟩, hf5, hst⟩ := own_store hA6 (k := i) hlt; have HU2 := hd hu; have HG6 := hd hG6; have HB6 := hd hB6; clear hu hG6 hB6 hg5 hb5 hA6))
                go_roundw
                case rel =>
                  obtain ⟨hG7, hO7⟩ := set_frame (k := i) rfl hm0 HG6.out HB6.out HU2.out (.int .i64 ((gn : Int) + 2 - 1))
                  refine ⟨i + 1, by omega, by go_num, by rw [HST.out]; rw [List.append_assoc] at hO7; exact hO7, HB6.out, ?_, hG7⟩
                  rw [← splice_set HPK2.out (by rw [length_ints, HPL.out, HZL.out])]; exact hst.out _
                case measure => simp [intOf]; omega
              · rw [h] at hop; cases hop
      · obtain rfl : k = N := by omega
        have HR : Hid (circF f = (runC (L.map treeB) k).1) := hd (by rw [HCF.out])
        go_wp2
        go_ret2
        refine ⟨_, by rw [HF.out]; rfl, ?_, ?_⟩
        · rw [HV.out, HR.out]; exact ⟨HO.out, own_lt HO.out⟩
        · exact ext_appS (v := .slice (some ⟨w.heap.size, 0, none⟩) 0 0) HX2.out HGB.out (fun g hg => by cases hg; exact Nat.le_refl _)
end Go.Proofs.Ytmfgcpeddfbngaa
