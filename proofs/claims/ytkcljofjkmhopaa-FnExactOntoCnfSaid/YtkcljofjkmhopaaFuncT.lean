/-
  FunctionalCnf of the impl's side. Condition: none beyond the argument's range.
-/
import Derived.Test.YtkcljofjkmhopaaPig
import Derived.Test.YtkcljofjkmhopaaC28
namespace Go.Proofs.Ytkcljofjkmhopaa
open Go.RowKit
set_option maxHeartbeats 1600000 in
theorem i_PigeonCnf (m : Nat) (hm : 1 ≤ m ∧ m ≤ 3) (w : World) : Calls Try.prog 94 #[.int .i64 m] w (fun e w' => ∃ ov, e = .returned (.tuple #[.agg #[.int .i64 (((m : Int) + 1) * (m : Int)), ov], .bool true]) ∧ OwnSS w' (w.heap.size + 1) w'.heap.size 23 3 ov (cnf17 m).cs ∧ Ext w w') := by
  have HQ : Hid (holesB m = true) := hd (by unfold holesB; exact inB_iff.2 (by omega))
  have HPH : Hid (∀ w, Calls Try.prog 121 #[.int .i64 ((m : Int) + 1), .int .i64 m] w _) := hd fun w => i_Pigeonhole m hm w
  generalize hV : ((m : Int) + 1) * (m : Int) = V at *
  have hs := blk_new (w := w) (.cells #[.int .i64 0, .slice none 0 0] 41) rfl
  go_enter Try.func94, Try.ntmps94
  go_wp2_with fail
  refine (rt (i_holesOk m _) HQ).mono ?_
  rintro e w1 ⟨rfl, rfl⟩
  go_wp2_with fail
  refine (HPH.out _).mono ?_
  rintro e w3 ⟨ov, rfl, ho, hx⟩
  obtain ⟨A, c, rfl, h1, h2⟩ := ho.form
  have B3 := hd (hx.heap hs)
  obtain ⟨k0, k1⟩ := blk2 B3.out
  obtain ⟨k2, k3⟩ := blk2f B3.out
  have k4 := blk_lt B3.out
  have X3 := hd (Ext.trans (Ext.new w _) hx)
  have OW := hd ho
  clear ho hx hs
  generalize (cnf17 m).cs.length = L at *
  have HC := hd (blk2_set (x' := .int .i64 V) (y' := .slice A L c) B3.out)
  have hg3 := grown_set (grown_set (grown_refl w3 (some w.heap.size)) 0 (.int .i64 V)) 1 (.slice A L c)
  have OW2 := hd ((OW.out.box B3.out (by decide) (by decide) hg3).hi_le hg3.size)
  have X4 := hd (ext_set (i := 1) (ext_set (i := 0) X3.out (Nat.le_refl _) (.int .i64 V)) (Nat.le_refl _) (.slice A L c))
  clear hg3
  go_wp2
  obtain ⟨p0, p1⟩ := blk2 HC.out
  exact bodyPost_ret (v := .tuple #[.agg #[.int .i64 V, .slice A L c], .bool true]) (by simp [results, Try.results94, go_sem, p0, p1]) rfl ⟨_, rfl, by have := OW2.out; simpa using this, X4.out⟩
def fPair (m i j x : Nat) : List Int := [-(pvar m ((i : Int) + 1) ((j : Int) + 1)), -(pvar m ((i : Int) + 1) ((x : Int) + 1))]
def fP (m i j t : Nat) : List (List Int) := (List.range t).map fun d => fPair m i j (j + 1 + d)
def fQ (m i j : Nat) : List (List Int) := (List.range j).flatMap fun y => fP m i y (m - (y + 1))
def fR (m i : Nat) : List (List Int) := (List.range i).flatMap fun z => fQ m z m
theorem fP_succ (m i j t : Nat) : fP m i j (t + 1) = fP m i j t ++ [fPair m i j (j + 1 + t)] := by simp [fP, List.range_succ]
theorem fQ_succ (m i j : Nat) : fQ m i (j + 1) = fQ m i j ++ fP m i j (m - (j + 1)) := by simp [fQ, List.range_succ]
theorem fR_succ (m i : Nat) : fR m (i + 1) = fR m i ++ fQ m i m := by simp [fR, List.range_succ]
theorem fP_len (m i j t : Nat) : (fP m i j t).length = t := by simp [fP]
theorem fQ_len (m i j : Nat) : (fQ m i j).length ≤ j * m := by
  induction j with
  | zero => simp [fQ]
  | succ j ih => rw [fQ_succ, List.length_append, fP_len, Nat.succ_mul]; omega
theorem fR_len (m i : Nat) : (fR m i).length ≤ i * (m * m) := by
  induction i with
  | zero => simp [fR]
  | succ i ih => rw [fR_succ, List.length_append, Nat.succ_mul]; have := fQ_len m i m; omega
theorem fPair_ok {m i j x : Nat} (hm : 1 ≤ m ∧ m ≤ 3) (hi : i ≤ m) (hj : j < x) (hx : x < m) : (fPair m i j x).Pairwise (fun a b => absI a < absI b) ∧ ∀ z ∈ fPair m i j x, -1000 ≤ z ∧ z ≤ 1000 := by
  have key : ∀ m ∈ [1, 2, 3], ∀ i ∈ [0, 1, 2, 3], ∀ j ∈ [0, 1, 2], ∀ x ∈ [0, 1, 2], i ≤ m → j < x → x < m → (fPair m i j x).Pairwise (fun a b => absI a < absI b) ∧ ∀ z ∈ fPair m i j x, -1000 ≤ z ∧ z ≤ 1000 := by decide
  exact key m (by simp; omega) i (by simp; omega) j (by simp; omega) x (by simp; omega) hi hj hx
def func17 (m : Nat) : Cnf := ⟨((m : Int) + 1) * (m : Int), (cnf17 m).cs ++ fR m (m + 1)⟩
set_option maxRecDepth 100000 in
set_option maxHeartbeats 6400000 in
theorem i_FunctionalCnf' (m : Nat) (hm : 1 ≤ m ∧ m ≤ 3) (w : World) : Calls Try.prog 45 #[.int .i64 m] w (fun e w' => ∃ ov, e = .returned (.tuple #[.agg #[.int .i64 (((m : Int) + 1) * (m : Int)), ov], .bool true]) ∧ OwnSS w' (w.heap.size + 1) w'.heap.size 23 3 ov (func17 m).cs ∧ Ext w w') := by
  have HPH : Hid (∀ w, Calls Try.prog 94 #[.int .i64 m] w _) := hd fun w => i_PigeonCnf m hm w
  have HLC : Hid ((cnf17 m).cs.length ≤ 100) := hd (by
    have key : ∀ m ∈ [1, 2, 3], (cnf17 m).cs.length ≤ 100 := by decide
    exact key m (by simp; omega))
  have HFC : Hid ((func17 m).cs = (cnf17 m).cs ++ fR m (m + 1)) := hd rfl
  have HPAIR : Hid (∀ i j x, i ≤ m → j < x → x < m → _) := hd fun i j x h1 h2 h3 => fPair_ok (m := m) (i := i) (j := j) (x := x) hm h1 h2 h3
  have HPV : Hid (∀ (a b : Int) (w : World), 1 ≤ a ∧ a ≤ 1000 → 0 ≤ b ∧ b ≤ 1000 → Calls Try.prog 79 #[.int .i64 m, .int .i64 a, .int .i64 b] w (Ret w (.int .i64 (pvar m a b)))) := hd fun a b w ha hb => i_pigeonVar m a b w (by omega) ha hb
  obtain ⟨hm1, hm2⟩ := hm
  generalize hV : ((m : Int) + 1) * (m : Int) = V at *
  have hs := hd (blk_new (w := w) (.cells #[.int .i64 0, .slice none 0 0] 41) rfl)
  obtain ⟨w0, hw0⟩ : ∃ w0 : World, w0 = w.alloc (.cells #[.int .i64 0, .slice none 0 0] 41) := ⟨_, rfl⟩
  have hs0 : w0.heap.size = w.heap.size + 1 := by rw [hw0]; simp
  have HX0 : Hid (Ext w w0) := hd (by rw [hw0]; exact Ext.new _ _)
  have HR0 : Hid (w0.heap[w.heap.size]? = some (.cells #[.int .i64 0, .slice none 0 0] 41)) := hd (by rw [hw0]; exact hs.out)
  have HW0 := hd hw0
  clear hw0 hs
  go_enter Try.func45, Try.ntmps45
  go_wp2_with fail
  rw [← HW0.out]
  refine (HPH.out _).mono ?_
  rintro e w3 ⟨ov, rfl, ho, hx⟩
  obtain ⟨A, c, rfl, h1, h2⟩ := ho.form
  have F0 : Hid (FamB w0 (w3.alloc (.cells #[.int .i64 V, .slice A (cnf17 m).cs.length c] 41)) w3.heap.size 41 V w0.heap.size (.slice A (cnf17 m).cs.length c) ((cnf17 m).cs ++ fR m 0)) :=
    hd ⟨blk_new _ rfl, by rw [show fR m 0 = [] from rfl, List.append_nil]; exact ((ho.ext (Ext.new _ _)).hi_le (by simp)).lo_le (by omega), hx.alloc _, hx.size, Nat.le_refl _, Nat.le_trans hx.size (by simp)⟩
  have hbx : w0.heap.size ≤ w3.heap.size := hx.size
  clear ho hx
  have hlc := HLC.out
  generalize hbb : w3.heap.size = bx at *
  go_wp2
  go_loopw [6] (fun x wr => ∃ i : Nat, i ≤ m + 1 ∧ x = .int .i64 ((i : Int) + 1) ∧ ∃ ov, FamB w0 wr bx 41 V w0.heap.size ov ((cnf17 m).cs ++ fR m i)) (fun x _ => m + 2 - (intOf x).toNat)
  case atStart => exact ⟨0, by omega, rfl, _, F0.out⟩
  case round =>
    obtain ⟨i, hi, rfl, ov, hF⟩ := hrel
    have HF3 := hd hF
    clear hF F0
    have hLR := fR_len m i
    have hLR2 : i * (m * m) ≤ 4 * (3 * 3) := Nat.mul_le_mul (by omega) (Nat.mul_le_mul (by omega) hm2)
    by_cases hlti : i < m + 1
    · have hil : (i : Int) + 1 ≤ (m : Int) + 1 := by omega
      have hil2 : i ≤ m := by omega
      have HSR : Hid (fR m (i + 1) = fR m i ++ fQ m i m) := hd (fR_succ m i)
      have F4 : Hid (FamB w0 wr bx 41 V w0.heap.size ov ((cnf17 m).cs ++ fR m i ++ fQ m i 0)) := hd (by rw [show fQ m i 0 = [] from rfl, List.append_nil]; exact HF3.out)
      obtain ⟨wo, rfl⟩ : ∃ wo : World, wo = wr := ⟨_, rfl⟩
      go_wp2
      go_loopw [7] (fun x wr => ∃ j : Nat, j ≤ m ∧ x = .int .i64 ((j : Int) + 1) ∧ ∃ ov, FamB w0 wr bx 41 V w0.heap.size ov ((cnf17 m).cs ++ fR m i ++ fQ m i j)) (fun x _ => m + 1 - (intOf x).toNat)
      case atStart => exact ⟨0, by omega, rfl, _, F4.out⟩
      case round =>
        obtain ⟨j, hj, rfl, ov, hF⟩ := hrel
        have HF4 := hd hF
        clear hF F4 HF3
        have hLQ := fQ_len m i j
        have hLQ2 : j * m ≤ 3 * 3 := Nat.mul_le_mul (by omega) hm2
        by_cases hltj : j < m
        · have hjl : (j : Int) + 1 ≤ (m : Int) := by omega
          have HSQ : Hid (fQ m i (j + 1) = fQ m i j ++ fP m i j (m - (j + 1))) := hd (fQ_succ m i j)
          have F5 : Hid (FamB w0 wr bx 41 V w0.heap.size ov ((cnf17 m).cs ++ fR m i ++ fQ m i j ++ fP m i j (j + 1 - (j + 1)))) := hd (by rw [Nat.sub_self, show fP m i j 0 = [] from rfl, List.append_nil]; exact HF4.out)
          obtain ⟨wo, rfl⟩ : ∃ wo : World, wo = wr := ⟨_, rfl⟩
          go_wp2
          go_loopw [8] (fun x wr => ∃ X : Nat, j < X ∧ X ≤ m ∧ x = .int .i64 ((X : Int) + 1) ∧ ∃ ov, FamB w0 wr bx 41 V w0.heap.size ov ((cnf17 m).cs ++ fR m i ++ fQ m i j ++ fP m i j (X - (j + 1)))) (fun x _ => m + 1 - (intOf x).toNat)
          case atStart => exact ⟨j + 1, by omega, by omega, by go_num, _, F5.out⟩
          case round =>
            obtain ⟨X, hX1, hX2, rfl, ov, hF⟩ := hrel
            have HF5 := hd hF
            clear hF F5 HF4
            by_cases hltX : X < m
            · have hXl : (X : Int) + 1 ≤ (m : Int) := by omega
              have HSP : Hid (fP m i j (X + 1 - (j + 1)) = fP m i j (X - (j + 1)) ++ [fPair m i j X]) := hd (by
                obtain ⟨t, rfl⟩ : ∃ t, X = j + 1 + t := ⟨X - (j + 1), by omega⟩
                rw [show j + 1 + t + 1 - (j + 1) = t + 1 from by omega, show j + 1 + t - (j + 1) = t from by omega]
                exact fP_succ m i j t)
              have hLP : (fP m i j (X - (j + 1))).length = X - (j + 1) := fP_len _ _ _ _
              have HPC : Hid (fPair m i j X = [-(pvar m ((i : Int) + 1) ((j : Int) + 1)), -(pvar m ((i : Int) + 1) ((X : Int) + 1))]) := hd rfl
              obtain ⟨hp1, hp2⟩ := HPAIR.out i j X hil2 hX1 hltX
              have hln : ((cnf17 m).cs ++ fR m i ++ fQ m i j ++ fP m i j (X - (j + 1))).length ≤ 1048576 := by
                simp only [List.length_append, hLP]; omega
              have hA := hd (fun w => HPV.out ((i : Int) + 1) ((j : Int) + 1) w (by omega) (by omega))
              have hB := hd (fun w => HPV.out ((i : Int) + 1) ((X : Int) + 1) w (by omega) (by omega))
              have ha : 0 ≤ pvar m ((i : Int) + 1) ((j : Int) + 1) ∧ pvar m ((i : Int) + 1) ((j : Int) + 1) ≤ 1000 := by
                have := hp2 _ (by rw [HPC.out]; exact List.mem_cons_self); unfold pvar; have := pv2_mul (m := m) (k := i) hm2 (by omega); rw [show (i : Int) + 1 - 1 = (i : Int) from by omega]; omega
              have hb : 0 ≤ pvar m ((i : Int) + 1) ((X : Int) + 1) ∧ pvar m ((i : Int) + 1) ((X : Int) + 1) ≤ 1000 := by
                unfold pvar; have := pv2_mul (m := m) (k := i) hm2 (by omega); rw [show (i : Int) + 1 - 1 = (i : Int) from by omega]; omega
              generalize pvar m ((i : Int) + 1) ((j : Int) + 1) = a at *
              generalize pvar m ((i : Int) + 1) ((X : Int) + 1) = b at *
              have hw1 : IntKind.i64.wrap (-a) = -a := IntWalk.i64_in _ (by omega)
              have hw2 : IntKind.i64.wrap (-b) = -b := IntWalk.i64_in _ (by omega)
              obtain ⟨c0, c1⟩ := blk2 HF5.out.blk
              have hbl := blk_lt HF5.out.blk
              have hx0 := HF5.out.ext
              have HMC : Hid (∀ w' v, RdI w' v [-a, -b] → Calls Try.prog 80 #[v] w' (RetI w' 3 (fPair m i j X))) := hd fun w' v hr => i_mustClause [-a, -b] (fPair m i j X) v w' hr (by simp) (hd (by rw [HPC.out])) (hd hp1) (hd hp2)
              obtain ⟨wo, rfl⟩ : ∃ wo : World, wo = wr := ⟨_, rfl⟩
              go_wp2_with fail
              go_region_law (first
                | (go_simp; go_at_call 79; (with_reducible refine (hA.out _).mono ?_); rintro e w1 ⟨rfl, rfl⟩)
                | (go_simp; go_at_call 79; (with_reducible refine (hB.out _).mono ?_); rintro e w1 ⟨rfl, rfl⟩)
                | (go_simp; go_at_call 80
                   with_reducible refine (HMC.out _ _ ?_).mono ?_
                   · exact rdI_pair (heap_alloc_new _ _)
                   rintro e w1 ⟨u, rfl, hu, hx1⟩
                   have X1 : Ext wo w1 := Ext.trans (by first | exact ((Ext.refl _).drew).alloc _ | exact Ext.new _ _ | exact (ext_drewN _ _).alloc _) hx1
                   have Y1 : Ext w0 w1 := hx0.trans X1
                   have d0 := X1.cell c0
                   have d1 := X1.cell c1
                   have d2 := Nat.lt_of_lt_of_le hbl X1.size
                   obtain ⟨A4, c4, rfl, -⟩ := hu.rd.form
                   have hu' : OwnI w1 wo.heap.size 3 (.slice A4 (fPair m i j X).length c4) (fPair m i j X) := own_rebase hu (by simp))
                | (refine stepL _ (v := ov) (src := .slice (some ⟨_, 0, none⟩) 1 1) (lo := w0.heap.size) (hi := wo.heap.size) ((HF5.out.own.ext X1).ext (Ext.new _ _)) (own_ext hu' (Ext.new _ _)) HF5.out.low (Nat.le_trans X1.size (by simp)) (rd_oneV _ _ _) rfl (.tmp 36) (.tmp 49) rfl (by rfl) (by rfl) (by omega) ?_
                   intro v' w2 ho2 hg2
                   obtain ⟨A5, c5, rfl, h51, h52⟩ := OwnSS.form ho2
                   have hB2 := HF5.out.blk1 (by decide) (X1.alloc _) hg2
                   obtain ⟨q0, q1⟩ := blk2 hB2
                   obtain ⟨q2, q3⟩ := blk2f hB2
                   have q4 := blk_lt hB2
                   have HP := HF5.out.put (by decide) (by decide) (X1.alloc _) ho2 hg2
                   have X9 := HP.ext
                   generalize hLL : ((cnf17 m).cs ++ fR m i ++ fQ m i j ++ fP m i j (X - (j + 1)) ++ [fPair m i j X]).length = LL at *
                   have X8 : Ext w0 w2 := ext_appS (hx0.trans (X1.alloc _)) hg2 HF5.out.own_low))
              all_goals
                go_wp2
                go_roundw
                case rel => exact ⟨X + 1, by omega, by omega, by go_num, _, by rw [HSP.out, ← List.append_assoc]; exact HP⟩
                case measure => simp [intOf]; omega
            · obtain rfl : X = m := by omega
              go_wp2
              go_roundw
              case rel => exact ⟨j + 1, by omega, by go_num, ov, by rw [HSQ.out, ← List.append_assoc]; exact HF5.out⟩
              case measure => simp [intOf]; omega
        · obtain rfl : j = m := by omega
          go_wp2
          go_roundw
          case rel => exact ⟨i + 1, by omega, by go_num, ov, by rw [HSR.out, ← List.append_assoc]; exact HF4.out⟩
          case measure => simp [intOf]; omega
    · obtain rfl : i = m + 1 := by omega
      have XF := hd HF3.out.ext
      have B0 := hd (XF.out.heap HR0.out)
      obtain ⟨A9, c9, rfl, h91, h92⟩ := HF3.out.own.form
      obtain ⟨k0, k1⟩ := blk2 B0.out
      obtain ⟨k2, k3⟩ := blk2f B0.out
      have k4 := blk_lt B0.out
      obtain ⟨m0, m1⟩ := blk2 HF3.out.blk
      have OW := hd HF3.out.own
      have X3 := hd (HX0.out.trans XF.out)
      generalize hL : ((cnf17 m).cs ++ fR m (m + 1)).length = L at *
      have HC := hd (blk2_set (x' := .int .i64 V) (y' := .slice A9 L c9) B0.out)
      have hg3 := grown_set (grown_set (grown_refl wr (some w.heap.size)) 0 (.int .i64 V)) 1 (.slice A9 L c9)
      have OW2 := hd (((OW.out.box B0.out (by decide) (by decide) hg3).hi_le hg3.size).lo_le (lo' := w.heap.size + 1) (by omega))
      have X4 := hd (ext_set (i := 1) (ext_set (i := 0) X3.out (Nat.le_refl _) (.int .i64 V)) (Nat.le_refl _) (.slice A9 L c9))
      clear hg3
      go_wp2
      obtain ⟨p0, p1⟩ := blk2 HC.out
      exact bodyPost_ret (v := .tuple #[.agg #[.int .i64 V, .slice A9 L c9], .bool true]) (by simp [results, Try.results45, go_sem, p0, p1]) rfl ⟨_, rfl, by rw [HFC.out]; exact OW2.out, X4.out⟩
end Go.Proofs.Ytkcljofjkmhopaa
