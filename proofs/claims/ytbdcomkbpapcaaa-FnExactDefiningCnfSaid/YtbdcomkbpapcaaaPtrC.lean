import Derived.Test.YtbdcomkbpapcaaaMg9
import Derived.Test.YtbdcomkbpapcaaaPtr
import Derived.IntWalk
/-
  slices.CompactFunc on pointers to trees, by text; the program's parts and FormulaParts. Condition: list lengths up to 2^20.
-/

namespace Go.Proofs.Ytbdcomkbpapcaaa
open Go.RowKit Go.Sort
def keepsP (xs : List Pf) (m : Nat) : Bool := Go.Lib.keeps (xs.map txtP).toArray m
/-- The first of each run of equal texts, up to a place. -/
def kpUp (xs : List Pf) : Nat → List Pf
  | 0 => []
  | m + 1 => kpUp xs m ++ (if keepsP xs m then (xs[m]?).toList else [])
theorem kpUp_map (xs : List Pf) : ∀ m, m ≤ xs.length → (kpUp xs m).map txtP = Go.Lib.compactUpTo (xs.map txtP).toArray m
  | 0, _ => by simp [kpUp, Go.Lib.compactUpTo]
  | m + 1, h => by
    rw [kpUp, Go.Lib.compactUpTo_succ, List.map_append, kpUp_map xs m (by omega)]
    unfold keepsP
    split
    · rw [getElem!_pos _ m (by simp; omega)]
      simp [List.getElem?_eq_getElem (show m < xs.length by omega)]
    · simp
theorem kpUp_mem (xs : List Pf) : ∀ m, ∀ y ∈ kpUp xs m, y ∈ xs
  | 0, y, h => by simp [kpUp] at h
  | m + 1, y, h => by
    rw [kpUp] at h
    rcases List.mem_append.1 h with h | h
    · exact kpUp_mem xs m y h
    · split at h
      · rcases hm : xs[m]? with _ | z
        · rw [hm] at h; simp at h
        · rw [hm] at h
          obtain rfl : y = z := by simpa using h
          exact List.mem_of_getElem? hm
      · simp at h
theorem keepsP_zero (xs : List Pf) : keepsP xs 0 = true := by simp [keepsP, Go.Lib.keeps]
theorem keepsP_succ {xs : List Pf} {j : Nat} (h : j + 1 < xs.length) : keepsP xs (j + 1) = !(txtP xs[j + 1] == txtP (xs[j]'(by omega))) := by
  unfold keepsP Go.Lib.keeps
  rw [getElem!_pos _ (j + 1) (by simpa using h), getElem!_pos _ (j + 1 - 1) (by simp; omega)]
  by_cases e : txtP xs[j + 1] = txtP (xs[j]'(by omega))
  · simp [e]
  · simp [e]
theorem kpUp_yes {xs : List Pf} {m : Nat} (h : m < xs.length) (hk : keepsP xs m = true) : kpUp xs (m + 1) = kpUp xs m ++ [xs[m]] := by
  rw [kpUp, hk, if_pos rfl, List.getElem?_eq_getElem h]; rfl
theorem kpUp_no {xs : List Pf} {m : Nat} (hk : keepsP xs m = false) : kpUp xs (m + 1) = kpUp xs m := by
  rw [kpUp, hk, if_neg (by decide), List.append_nil]
theorem kpUp_len (xs : List Pf) : ∀ m, (kpUp xs m).length ≤ m
  | 0 => by simp [kpUp]
  | m + 1 => by
    have := kpUp_len xs m
    rw [kpUp, List.length_append]
    split
    · cases xs[m]? <;> simp <;> omega
    · simp; omega
def RetComP (w0 : World) (v : Value) (xs : List Pf) (w : World) : Ending → World → Prop := fun e w' => ∃ v' ys, e = .returned v' ∧ ys.map txtP = Go.Lib.compact (xs.map txtP) ∧ (∀ y ∈ ys, y ∈ xs) ∧ OwnPf w' w0.heap.size v' ys ∧ w.grownBy w' v.ownBlock
theorem retComP_of {w0 w w' : World} {v v' : Value} {xs ys : List Pf} (he : ys = kpUp xs xs.length) (ho : OwnPf w' w0.heap.size v' ys) (hg : w.grownBy w' v.ownBlock) : RetComP w0 v xs w (.returned v') w' := by
  subst he
  refine ⟨v', _, rfl, ?_, kpUp_mem xs _, ho, hg⟩
  rw [kpUp_map xs _ (Nat.le_refl _)]
  simp [Go.Lib.compact]
theorem zero_ptr : ∀ w, (zeroValue 84).run Try.prog w = .ok (.pointer none) w := fun w => by kernel_rfl
def RdPf (w : World) (v : Value) (ps : List Pf) : Prop := Rd w 1 v ps.length (ptrs ps)
theorem RdPf.form {w : World} {v : Value} {ps : List Pf} (h : RdPf w v ps) : ∃ A c, v = .slice A ps.length c ∧ ps.length ≤ c ∧ c ≤ maxLen ∧ Hid (RdPf w (.slice A ps.length c) ps) := by
  have h' := h
  obtain ⟨hl, A, c, hv, h1, h2, _⟩ := h'
  subst hv
  exact ⟨A, c, rfl, h1, h2, hd h⟩
theorem RdPf.at_ {w : World} {ps : List Pf} {A : Option Addr} {n c : Nat} (h : Hid (RdPf w (.slice A n c) ps)) {k : Nat} (hk : k < ps.length) : ∃ a, A = some a ∧ w.cell? (a.add k) = some (encP ps[k]) := by
  obtain ⟨hl, A', c', hv, h1, h2, hc⟩ := h.out
  obtain ⟨a, ha, hcell⟩ := hc k _ (ptrs_get hk)
  injection hv with hA _ _
  exact ⟨a, hA.trans ha, hcell⟩
theorem enters_partsEq : Enters 98 := fun args w => by kernel_rfl
set_option maxRecDepth 100000 in
set_option maxHeartbeats 6400000 in
theorem slices_CompactP (w0 : World) (xs : List Pf) (v : Value) (w : World) (hx : Ext w0 w) (hn : NodesP w0 xs) (h : OwnPf w w0.heap.size v xs) (hl : xs.length ≤ 1048576) :
    Calls Try.prog 97 #[v, .func (.func 98) #[] #[]] w (RetComP w0 v xs w) := by
  have HE : ∀ (args : Array Value) (w : World), (callFunc 98 args).run Try.prog w = .ok (.enter 98 args) w := enters_partsEq
  rcases own_form h with ⟨rfl, hnl, _⟩ | ⟨g, cap, rfl, hbl, hbh, hnc, hcm⟩
  · obtain rfl : xs = [] := List.eq_nil_of_length_eq_zero hnl
    have HO := hd h
    clear h hnl hn
    go_enter Try.func97, Try.ntmps97
    go_wp2
    go_ret
    exact retComP_of rfl HO.out (grown_refl _ _)
  · have HN := hd hn
    have HX0 := hd hx
    have HO := hd h
    clear h hn hx
    unfold maxLen at hcm
    by_cases h2 : xs.length < 2
    · have HK : Hid (xs = kpUp xs xs.length) := hd (by
        rcases (by omega : xs.length = 0 ∨ xs.length = 1) with e | e
        · obtain rfl := List.eq_nil_of_length_eq_zero e; rfl
        · obtain ⟨x, rfl⟩ := List.length_eq_one_iff.1 e
          rw [List.length_singleton, kpUp_yes (by simp) (keepsP_zero _)]; rfl)
      go_enter Try.func97, Try.ntmps97
      go_wp2
      go_ret
      exact retComP_of HK.out HO.out (grown_refl _ _)
    · have HRD : Hid (Rd w 1 (.slice (some ⟨g, 0, none⟩) xs.length cap) xs.length (ptrs xs)) := hd (own_rd HO.out)
      have HCELL : Hid (∀ (k : Nat) (y : Pf), xs[k]? = some y → w.cell? ⟨g, k, none⟩ = some (encP y)) := hd (fun k y hk => by
        have hkl := (List.getElem?_eq_some_iff.1 hk).1
        have := World.ownsRow.cellAt HO.out k (by omega)
        rw [ptrs_get hkl, (List.getElem?_eq_some_iff.1 hk).2] at this
        exact this)
      have HKS : Hid (∀ (j : Nat) (y y' : Pf), xs[j + 1]? = some y → xs[j]? = some y' → keepsP xs (j + 1) = !(txtP y == txtP y')) := hd (fun j y y' h1 h0 => by
        obtain ⟨a1, rfl⟩ := List.getElem?_eq_some_iff.1 h1
        obtain ⟨a0, rfl⟩ := List.getElem?_eq_some_iff.1 h0
        exact keepsP_succ a1)
      generalize hNN : xs.length = N at *
      have HNN := hd hNN
      clear hNN
      go_enter Try.func97, Try.ntmps97
      go_wp2
      go_loopw [5] (fun i wr => ∃ j n : Nat, j + 1 ≤ N ∧ i = .int .i64 ((j : Int) + 1) ∧ Hid (kpUp xs (j + 1) = xs.take (j + 1)) ∧ wr = w.drewN n) (fun i _ => N + 1 - (intOf i).toNat)
      case atStart => exact ⟨0, 0, by omega, rfl, hd (by rw [kpUp_yes (by rw [HNN.out]; omega) (keepsP_zero _), List.take_succ_eq_append_getElem (by rw [HNN.out]; omega)]; rfl), rfl⟩
      case round =>
        obtain ⟨j, n, hj, rfl, HKP, rfl⟩ := hrel
        by_cases hlt : j + 1 < N
        · have hx1 : j + 1 < xs.length := by rw [HNN.out]; exact hlt
          have hy1 : xs[j + 1]? = some xs[j + 1] := List.getElem?_eq_getElem hx1
          have hy0 : xs[j]? = some (xs[j]'(by omega)) := List.getElem?_eq_getElem (by omega)
          have hc1 := HCELL.out (j + 1) _ hy1
          have hc0 := HCELL.out j _ hy0
          have HK1 := hd (HKS.out j _ _ hy1 hy0)
          have HN1 : Hid (RdF 92 w0 xs[j + 1].2 (encP xs[j + 1])) := hd (HN.out _ (List.getElem_mem hx1))
          have HN0 : Hid (RdF 92 w0 (xs[j]'(by omega)).2 (encP (xs[j]'(by omega)))) := hd (HN.out _ (List.getElem_mem _))
          have HTK : Hid (xs.take (j + 1 + 1) = xs.take (j + 1) ++ [xs[j + 1]]) := hd (List.take_succ_eq_append_getElem hx1)
          have HYES := hd (fun hk => kpUp_yes (xs := xs) hx1 hk)
          have HNO := hd (fun hk => kpUp_no (xs := xs) (m := j + 1) hk)
          clear hy1 hy0
          generalize xs[j + 1] = y at *
          generalize xs[j]'_ = y' at *
          have hwr : IntKind.i64.wrap ((j : Int) + 1 - 1) = (j : Int) := by rw [show (j : Int) + 1 - 1 = (j : Int) from by omega]; exact IntWalk.i64_in _ (by omega)
          obtain ⟨q, hq⟩ : ∃ q, (txtP y == txtP y') = q := ⟨_, rfl⟩
          have HKQ : Hid (keepsP xs (j + 1) = !q) := hd (by rw [HK1.out, hq])
          have HEQ : Hid (∀ m, Calls Try.prog 98 #[encP y, encP y'] (w.drewN m) (RetQ (w.drewN m) (.bool q))) := hd fun m => by
            have := i_partsEq y y' (w.drewN m) (HN1.out.ext (HX0.out.trans (ext_drewN w m))) (HN0.out.ext (HX0.out.trans (ext_drewN w m)))
            rw [hq] at this
            exact this
          clear hq hx1 HK1
          obtain ⟨py, hpy⟩ : ∃ py, encP y = py := ⟨_, rfl⟩
          obtain ⟨py', hpy'⟩ : ∃ py, encP y' = py := ⟨_, rfl⟩
          have HPY := hd hpy
          rw [hpy] at hc1 HEQ
          rw [hpy'] at hc0 HEQ
          clear hpy hpy'
          have hj0 : (0 : Int) ≤ (j : Int) := by omega
          have hjN : (j : Int) + 1 < (N : Int) := by omega
          have hjN2 : (j : Int) < (N : Int) := by omega
          cases q
          · go_wp2_with fail
            go_quiet ((go_at_call 98; first | exact q_drew (HEQ.out _) | exact q_drew' (HEQ.out _)))
            go_wp2
            go_roundw
            case rel => exact ⟨j + 1, n + nq, by omega, by go_num, hd (by rw [HYES.out HKQ.out, HKP.out, HTK.out]), rfl⟩
            case measure => simp [intOf]; omega
          · have hkn : ¬ cap = j + 1 := by omega
            have HST : Hid (kpUp xs (j + 1 + 1) = xs.take (j + 1)) := hd (by rw [HNO.out HKQ.out, HKP.out])
            go_wp2_with fail
            go_quiet ((go_at_call 98; first | exact q_drew (HEQ.out _) | exact q_drew' (HEQ.out _)))
            clear hc1 hc0 HEQ HPY HKQ HN1 HN0 HYES HNO HTK hwr HKP
            go_wp2
            go_loopw [7, 5] (fun i7 i5 wr => ∃ (m K : Nat) (R : List Pf), j + 1 + m + 1 ≤ N ∧ K ≤ j + 1 + m ∧ 1 ≤ K ∧ i7 = .int .i64 ((m : Int) + 1) ∧ i5 = .int .i64 (K : Int) ∧ Own wr w0.heap.size 84 1 (.slice (some ⟨g, 0, none⟩) N cap) N (ptrs R) ∧ Hid (R.take K = kpUp xs (j + 1 + m + 1)) ∧ Hid (R.drop (j + 1 + m) = xs.drop (j + 1 + m)) ∧ w.grownBy wr (some g)) (fun i7 _ _ => N + 1 - (intOf i7).toNat)
            case atStart =>
              refine ⟨0, j + 1, xs, by omega, by omega, by omega, rfl, by go_num, ?_, hd HST.out.symm, hd rfl, grown_ext (ext_drewN w _) _⟩
              have := own_ext HO.out (ext_drewN w (n + nq))
              rw [HNN.out] at this
              exact this
            case round =>
              obtain ⟨m, K, R, hm, hK, hK1, rfl, rfl, ho, HT, HD, hgr⟩ := hrel
              have hxw : Ext w0 wr := ext_appS (v := .slice (some ⟨g, 0, none⟩) 0 0) HX0.out hgr (fun g' hg' => by cases hg'; exact hbl)
              have HXW := hd hxw
              have HOW := hd ho
              have HG := hd hgr
              have hRl : R.length = N := by have := ho.1; simpa using this
              have HRL := hd hRl
              clear hxw hgr hRl
              have hkn2 : ¬ cap = K := by omega
              by_cases hlt2 : j + 1 + (m + 1) < N
              · have hx1 : j + 1 + (m + 1) < xs.length := by rw [HNN.out]; exact hlt2
                have e1 : R[j + 1 + (m + 1)]? = some xs[j + 1 + (m + 1)] := by
                  have := congrArg (fun l => l[1]?) HD.out
                  rw [List.getElem?_drop, List.getElem?_drop] at this
                  exact this.trans (List.getElem?_eq_getElem hx1)
                have e0 : R[j + 1 + m]? = some (xs[j + 1 + m]'(by omega)) := by
                  have := congrArg (fun l => l[0]?) HD.out
                  rw [List.getElem?_drop, List.getElem?_drop] at this
                  exact this.trans (List.getElem?_eq_getElem (by omega))
                have hc1 := World.ownsRow.cellAt ho (j + 1 + (m + 1)) (by omega)
                have hc0 := World.ownsRow.cellAt ho (j + 1 + m) (by omega)
                rw [show (ptrs R)[j + 1 + (m + 1)]? = some (encP xs[j + 1 + (m + 1)]) from by rw [ptrs, List.getElem?_map, e1]; rfl] at hc1
                rw [show (ptrs R)[j + 1 + m]? = some (encP (xs[j + 1 + m]'(by omega))) from by rw [ptrs, List.getElem?_map, e0]; rfl] at hc0
                have HK1 : Hid (keepsP xs (j + 1 + m + 1) = !(txtP xs[j + 1 + (m + 1)] == txtP (xs[j + 1 + m]'(by omega)))) := hd (HKS.out (j + 1 + m) _ _ (List.getElem?_eq_getElem (show j + 1 + m + 1 < xs.length by omega)) (List.getElem?_eq_getElem _))
                have HN1 : Hid (RdF 92 w0 xs[j + 1 + (m + 1)].2 (encP xs[j + 1 + (m + 1)])) := hd (HN.out _ (List.getElem_mem hx1))
                have HN0 : Hid (RdF 92 w0 (xs[j + 1 + m]'(by omega)).2 (encP (xs[j + 1 + m]'(by omega)))) := hd (HN.out _ (List.getElem_mem _))
                have HYES : Hid (keepsP xs (j + 1 + m + 1) = true → kpUp xs (j + 1 + m + 1 + 1) = kpUp xs (j + 1 + m + 1) ++ [xs[j + 1 + (m + 1)]]) := hd (fun hk => kpUp_yes (xs := xs) (m := j + 1 + m + 1) (by omega) hk)
                have HNO : Hid (keepsP xs (j + 1 + m + 1) = false → kpUp xs (j + 1 + m + 1 + 1) = kpUp xs (j + 1 + m + 1)) := hd (fun hk => kpUp_no (xs := xs) (m := j + 1 + m + 1) hk)
                clear e1 e0 ho
                generalize xs[j + 1 + (m + 1)] = y at *
                generalize xs[j + 1 + m]'_ = y' at *
                clear hx1
                have hwr : IntKind.i64.wrap ((m : Int) + 1 - 1) = (m : Int) := by rw [show (m : Int) + 1 - 1 = (m : Int) from by omega]; exact IntWalk.i64_in _ (by omega)
                obtain ⟨q, hq⟩ : ∃ q, (txtP y == txtP y') = q := ⟨_, rfl⟩
                have HKQ : Hid (keepsP xs (j + 1 + m + 1) = !q) := hd (by rw [HK1.out, hq])
                have HEQ : Hid (∀ m, Calls Try.prog 98 #[encP y, encP y'] (wr.drewN m) (RetQ (wr.drewN m) (.bool q))) := hd fun m => by
                  have := i_partsEq y y' (wr.drewN m) (HN1.out.ext (HXW.out.trans (ext_drewN wr m))) (HN0.out.ext (HXW.out.trans (ext_drewN wr m)))
                  rw [hq] at this
                  exact this
                clear hq HK1
                obtain ⟨b1, hpy⟩ : ∃ b1, encP y = .pointer (some ⟨b1, 0, none⟩) := ⟨y.1, rfl⟩
                obtain ⟨b0, hpy'⟩ : ∃ b0, encP y' = .pointer (some ⟨b0, 0, none⟩) := ⟨y'.1, rfl⟩
                have HPY := hd hpy
                rw [hpy] at hc1 HEQ
                rw [hpy'] at hc0 HEQ
                clear hpy hpy'
                have hm0 : (0 : Int) ≤ (m : Int) := by omega
                have hmN : (m : Int) + 1 < ((N - (j + 1) : Nat) : Int) := by omega
                have hmN2 : (m : Int) < ((N - (j + 1) : Nat) : Int) := by omega
                obtain ⟨⟨u0, hci⟩, hfi, hst⟩ := own_store HOW.out (k := K) (by omega)
                cases q
                · go_wp2_with fail
                  go_quiet ((go_at_call 98; first | exact q_drew (HEQ.out _) | exact q_drew' (HEQ.out _)))
                  go_wp2
                  go_roundw
                  case rel =>
                    refine ⟨m + 1, K + 1, R.set K y, by omega, by omega, by omega, by go_num, by go_num, ?_, hd ?_, hd ?_, grown_set (grown_trans HG.out (grown_ext (ext_drewN wr nq) _)) _ _⟩
                    · have := own_ext (hst.out (.pointer (some ⟨b1, 0, none⟩))) (ext_drewN _ nq)
                      rw [← HPY.out] at this ⊢
                      have e : ptrs (R.set K y) = (ptrs R).set K (encP y) := by rw [ptrs, ptrs, List.map_set]
                      rw [e]
                      exact this
                    · have hKl : K < R.length := by rw [HRL.out]; omega
                      rw [List.take_succ_eq_append_getElem (by simpa using hKl), List.take_set, List.set_eq_of_length_le (by simp; omega), HT.out, List.getElem_set_self, show j + 1 + (m + 1) + 1 = j + 1 + m + 1 + 1 from by omega, HYES.out HKQ.out]
                    · rw [List.drop_set, if_pos (by omega)]
                      have := congrArg (fun l => l.drop 1) HD.out
                      rw [List.drop_drop, List.drop_drop] at this
                      exact this
                  case measure => simp [intOf]; omega
                · go_wp2_with fail
                  go_quiet ((go_at_call 98; first | exact q_drew (HEQ.out _) | exact q_drew' (HEQ.out _)))
                  go_wp2
                  go_roundw
                  case rel =>
                    refine ⟨m + 1, K, R, by omega, by omega, hK1, by go_num, rfl, own_ext HOW.out (ext_drewN wr nq), hd ?_, hd ?_, grown_trans HG.out (grown_ext (ext_drewN wr nq) _)⟩
                    · rw [HT.out, show j + 1 + (m + 1) + 1 = j + 1 + m + 1 + 1 from by omega, HNO.out HKQ.out]
                    · have := congrArg (fun l => l.drop 1) HD.out
                      rw [List.drop_drop, List.drop_drop] at this
                      exact this
                  case measure => simp [intOf]; omega
              · have hN1 : j + 1 + m + 1 = N := by omega
                have hnl : ¬ ((m : Int) + 1 < ((N - (j + 1) : Nat) : Int)) := by omega
                have HE : Hid (R.take K = kpUp xs xs.length) := hd (by rw [HT.out, hN1, HNN.out])
                have hKN : (K : Int) ≤ (N : Int) := by omega
                have hcl : ∀ ty, (Builtin.clear_ #[89] ty #[.slice (some ⟨g, K, none⟩) (N - K) (cap - K)]).run Try.prog wr = .ok (.tuple #[]) (wr.setCells g K (List.replicate (N - K) (.pointer none))) := fun ty =>
                  Lib.run_clear_slice wr _ _ ty _ Try.underlying89 zero_ptr rfl rfl g K _ _ (by omega) (fun k hk => by obtain ⟨⟨u, hu⟩, _, _⟩ := own_store ho (k := K + k) (by omega); rw [hu]; rfl) (fun k hk => World.ownsRow.frozenAt ho (K + k))
                obtain ⟨ds', ho', ht', hg'⟩ := own_setCells (k := K) (List.replicate (N - K) (.pointer none)) K wr _ (Nat.le_refl _) ho
                have HO2 := hd (own_cut ho' (k := K) (by omega))
                have HG2 := hd (grown_trans HG.out hg')
                have HT2 := hd ht'
                clear ho ho' ht' hg' HOW HG hN1
                go_wp2
                go_ret
                refine retComP_of HE.out ?_ HG2.out
                have := HO2.out
                rw [HT2.out, ptrs, ← List.map_take] at this
                show Own _ _ _ _ _ (R.take K).length (ptrs (R.take K))
                rw [show (R.take K).length = K from by rw [List.length_take, HRL.out]; omega]
                exact this
        · obtain rfl : N = j + 1 := by omega
          have HE : Hid (xs = kpUp xs xs.length) := hd (by rw [HNN.out, HKP.out, List.take_of_length_le (by rw [HNN.out]; exact Nat.le_refl _)])
          go_wp2
          go_ret
          exact retComP_of HE.out (own_ext HO.out (ext_drewN w n)) (grown_ext (ext_drewN w n) _)
def RetParts (w wN : World) (f : Fm) : Ending → World → Prop := fun e w' => ∃ u ys, e = .returned u ∧ ys.map txtP = partsB f ∧ (∀ y ∈ ys, y.2 ∈ subs f) ∧ NodesP wN ys ∧ OwnPf w' w.heap.size u ys ∧ Ext w w'
set_option maxHeartbeats 1600000 in
theorem i_parts (f : Fm) (p : Value) (w wN : World) (hN : Hid (Ext wN w)) (hp : RdF 92 wN f p) (hl : (txt f).length ≤ 80) : Calls Try.prog 60 #[p] w (RetParts w wN f) := by
  have hsl := subs_len f
  have HC := hd (i_collect w wN hN f p w (.slice none 0 0) [] hp (Ext.refl w) (own_nil _ _ _ _) (by simp; omega))
  clear hp
  go_enter Try.func60, Try.ntmps60
  go_wp2_with fail
  refine HC.out.mono ?_
  rintro e w1 ⟨u, qs, rfl, hq, hu, hn, hx⟩
  have hql : qs.length = (subs f).length := by rw [← hq]; simp
  have HQ : Hid (qs.map txtP = (subs f).map txt) := hd (by rw [← hq, List.map_map]; rfl)
  have HQ2 := hd hq
  have HU : Hid (OwnPf w1 w.heap.size u qs) := hd hu
  have HNN := hd hn
  have HN : Hid (NodesP w qs) := hd (hn.ext hN.out)
  have HX := hd hx
  have hql2 : qs.length ≤ 80 := by omega
  clear hq hu hn hx hql
  go_wp2_with fail
  refine (slices_SortP w qs u _ HX.out HN.out HU.out (by omega)).mono ?_
  rintro e w2 ⟨rfl, ys, hys, hmem, hu2, hg2⟩
  have hyl : ys.length ≤ 80 := by
    have := congrArg List.length hys
    rw [List.length_map, List.length_mergeSort, List.length_map] at this
    omega
  have HYS := hd hys
  have HM := hd hmem
  have HU2 := hd hu2
  have HX2 := hd (ext_appS HX.out hg2 (ownP_ge HU.out))
  have HN2 : Hid (NodesP w ys) := hd fun y hy => HN.out y (hmem y hy)
  clear hys hmem hu2 hg2
  go_wp2_with fail
  refine (slices_CompactP w ys u _ HX2.out HN2.out HU2.out (by omega)).mono ?_
  rintro e w3 ⟨v', zs, rfl, hz, hm, hu3, hg3⟩
  have HZ := hd hz
  have HM3 := hd hm
  have HU3 := hd hu3
  have HX3 := hd (ext_appS HX2.out hg3 (ownP_ge HU2.out))
  clear hz hm hu3 hg3
  go_wp2
  go_ret
  refine ⟨_, zs, rfl, ?_, fun y hy => ?_, fun y hy => HNN.out y (HM.out y (HM3.out y hy)), HU3.out, HX3.out⟩
  · rw [HZ.out, HYS.out, HQ.out]; rfl
  · rw [← HQ2.out]; exact List.mem_map_of_mem (HM.out y (HM3.out y hy))
end Go.Proofs.Ytbdcomkbpapcaaa
