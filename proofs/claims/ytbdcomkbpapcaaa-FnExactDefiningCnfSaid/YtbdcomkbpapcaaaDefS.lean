import Derived.Test.YtbdcomkbpapcaaaDefL
import Derived.Test.YtbdcomkbpapcaaaDefQ
/-
  DefiningCnf, the reference's side: letters and numbers of the parts. Conditions: at most 2^20 texts.
-/

namespace Go.Proofs.Ytbdcomkbpapcaaa
open Go.RowKit Go.Sort Seed
theorem s_l22Letter (s : ByteArray) (w : World) : Calls Try.prog 55 #[.string s] w (Ret w (.bool (letT s.data.toList))) := by
  by_cases h1 : s.size = 1
  · have hl : s.data.toList.length = 1 := by rw [← h1]; rfl
    obtain ⟨c, hc⟩ := List.length_eq_one_iff.1 hl
    have h0 : 0 < s.size := by omega
    have hg : s[0] = c := get_of_list (l := []) (r := []) hc h0
    have hgn : s[0].toNat = c.toNat := by rw [hg]
    have HL : Hid (letT s.data.toList = (decide (97 ≤ c.toNat) && decide (c.toNat ≤ 102))) := hd (by rw [hc]; rfl)
    have hs1 : (s.size : Int) = 1 := by omega
    clear hl hc hg h1
    generalize c.toNat = n at *
    by_cases g1 : 97 ≤ n
    · by_cases g2 : n ≤ 102
      · have e1 : (97 : Int) ≤ (n : Int) := by omega
        have e2 : (n : Int) ≤ 102 := by omega
        rw [decide_eq_true g1, decide_eq_true g2] at HL
        clear g1 g2
        go_enter Try.func55, Try.ntmps55
        go_wp2
        go_ret
        exact Ret.mk (by rw [HL.out]; rfl)
      · have e1 : (97 : Int) ≤ (n : Int) := by omega
        have e2 : ¬ (n : Int) ≤ 102 := by omega
        rw [decide_eq_true g1, decide_eq_false g2] at HL
        clear g1 g2
        go_enter Try.func55, Try.ntmps55
        go_wp2
        go_ret
        exact Ret.mk (by rw [HL.out]; rfl)
    · have e1 : ¬ (97 : Int) ≤ (n : Int) := by omega
      rw [decide_eq_false g1, Bool.false_and] at HL
      clear g1
      go_enter Try.func55, Try.ntmps55
      go_wp2
      go_ret
      exact Ret.mk (by rw [HL.out]; rfl)
  · have HL : Hid (letT s.data.toList = false) := hd (by
      have hl : s.data.toList.length ≠ 1 := by intro e; exact h1 (by rw [← e]; rfl)
      match hh : s.data.toList, hl with
      | [], _ => rfl
      | [c], hl => exact absurd rfl hl
      | c :: d :: r, _ => rfl)
    have e1 : ((s.size : Int) == 1) = false := by simp; omega
    have e2 : ¬ (s.size : Int) = 1 := by omega
    clear h1
    go_enter Try.func55, Try.ntmps55
    go_wp2
    go_ret
    exact Ret.mk (by rw [HL.out]; rfl)
theorem idxN_step {L : List Bs} {t : Bs} {k : Nat} (h : k < L.length) (c : Int) : idxN (L.drop k) t c = if L[k] = t then c else idxN (L.drop (k + 1)) t (c + 1) := by
  rw [drop_cons h]; rfl
set_option maxRecDepth 100000 in
theorem s_l22Var (oth : List Bs) (v : Value) (s : ByteArray) (w : World) (h : Rd_StringS w v oth) (hl : oth.length ≤ 1048576) : Calls Try.prog 57 #[v, .string s] w (Ret w (.int .i64 (varN oth s.data.toList))) := by
  obtain ⟨A, c, rfl, h1, h2, ha⟩ := Rd_StringS.form h
  have HLT := hd (fun w' => s_l22Letter s w')
  clear h
  cases hl : letT s.data.toList with
  | true =>
    rw [hl] at HLT
    have HV : Hid (varN oth s.data.toList = letN s.data.toList) := hd (by unfold varN; rw [if_pos hl])
    obtain ⟨i, hi, ht⟩ := letT_iff.1 hl
    have hsz : s.size = 1 := by
      have : s.data.toList.length = 1 := by rw [ht]; rfl
      rw [← this]; rfl
    have h0 : 0 < s.size := by omega
    have hg : s[0] = UInt8.ofNat (97 + i) := get_of_list (l := []) (r := []) ht h0
    have hgn : s[0].toNat = 97 + i := by rw [hg, UInt8.toNat_ofNat_of_lt' (by show _ < 256; omega)]
    have HN : Hid (letN s.data.toList = (i : Int) + 1) := hd (by
      rw [ht]
      show ((UInt8.ofNat (97 + i)).toNat : Int) - 97 + 1 = _
      rw [UInt8.toNat_ofNat_of_lt' (by show _ < 256; omega)]
      omega)
    clear hl ht hg
    go_enter Try.func57, Try.ntmps57
    go_wp2_with fail
    refine (HLT.out _).mono ?_
    rintro e w1 ⟨rfl, rfl⟩
    have hw1 : IntKind.u8.wrap ((97 : Int) + (i : Int) - 97) = (i : Int) := by
      rw [show (97 : Int) + (i : Int) - 97 = (i : Int) from by omega]
      have : i = 0 ∨ i = 1 ∨ i = 2 ∨ i = 3 ∨ i = 4 ∨ i = 5 := by omega
      rcases this with rfl | rfl | rfl | rfl | rfl | rfl <;> decide
    go_wp2
    go_ret
    exact Ret.mk (by rw [HV.out, HN.out]; simp [hw1])
  | false =>
    rw [hl] at HLT
    have HV : Hid (varN oth s.data.toList = idxN oth s.data.toList 7) := hd (by unfold varN; rw [if_neg (by rw [hl]; decide)])
    have HS := hd (fun k (hk : k < oth.length) (c : Int) => idxN_step (t := s.data.toList) hk c)
    have HE : Hid (idxN (oth.drop oth.length) s.data.toList = fun _ => 0) := hd (by rw [List.drop_length]; rfl)
    have H0 : Hid (idxN oth s.data.toList 7 = idxN (oth.drop 0) s.data.toList (7 + ((0 : Nat) : Int))) := hd (by simp)
    have HSL : Hid (s.toList = s.data.toList) := hd (ByteArray.toList_eq s)
    clear hl
    go_enter Try.func57, Try.ntmps57
    go_wp2_with fail
    refine (HLT.out _).mono ?_
    rintro e w1 ⟨rfl, rfl⟩
    go_wp2
    go_loop [5] (fun i => ∃ k : Nat, k ≤ oth.length ∧ i = .int .i64 (k : Int) ∧ Hid (idxN oth s.data.toList 7 = idxN (oth.drop k) s.data.toList (7 + (k : Int)))) (fun i => oth.length - (intOf i).toNat)
    case atStart => exact ⟨0, by omega, rfl, H0⟩
    case round =>
      obtain ⟨k, hk, rfl, HK⟩ := hrel
      by_cases hlt : k < oth.length
      · obtain ⟨a, rfl, hc⟩ := Rd_StringS.at_ ha hlt
        have HSK := hd (HS.out k hlt (7 + (k : Int)))
        obtain ⟨tb, htb⟩ : ∃ tb : ByteArray, ⟨oth[k].toArray⟩ = tb := ⟨_, rfl⟩
        have htb2 : tb.toList = oth[k] := by rw [← htb, ByteArray.toList_eq]
        rw [htb] at hc
        have hk7 : (k : Int) + 7 = 7 + (k : Int) := by omega
        by_cases hq : oth[k] = s.data.toList
        · have ea : (tb.toList == s.toList) = true := by rw [htb2, HSL.out, hq]; simp
          rw [if_pos hq] at HSK
          clear hq htb htb2 hk7
          go_wp2
          go_ret
          exact Ret.mk (by rw [HV.out, HK.out, HSK.out]; show Value.int .i64 ((k : Int) + 7) = _; rw [Int.add_comm])
        · have ea : (tb.toList == s.toList) = false := by rw [htb2, HSL.out]; simpa using hq
          rw [if_neg hq] at HSK
          clear hq htb htb2 hk7
          go_wp2
          go_round
          case rel => exact ⟨k + 1, by omega, by go_num, hd (by rw [HK.out, HSK.out, show (7 : Int) + (k : Int) + 1 = 7 + ((k + 1 : Nat) : Int) from by omega])⟩
          case measure => simp [intOf]; omega
      · obtain rfl : k = oth.length := by omega
        go_wp2
        go_ret
        exact Ret.mk (by rw [HV.out, HK.out, HE.out]; rfl)
/-- Clauses of the call's own. -/
def RetRo (w : World) (xss : List (List Int)) : Ending → World → Prop := fun e w' => ∃ v zs, e = .returned v ∧ OutZ w' w.heap.size v zs ∧ RowsZ w' w.heap.size w'.heap.size zs ∧ zs.map Prod.snd = xss ∧ Ext w w'
theorem rdI_litD {w : World} {b : Nat} {xs : List Int} (h : w.heap[b]? = some (.cells (ints xs).toArray 3 (0, 0))) (hn : xs.length ≤ 1048576) : RdI w (.slice (some ⟨b, 0, none⟩) xs.length xs.length) xs := by
  have := rdZ_at (us := ints xs) h (by simp [ints]; omega)
  rw [show (ints xs).length = xs.length from by simp [ints]] at this
  exact this
theorem rdSS_1 {W : World} {b : Nat} {u1 : Value} {x1 : List Int} (hb : W.heap[b]? = some (.cells #[u1] 57 (0, 0))) (h1 : RdI W u1 x1) : RdSS W (.slice (some ⟨b, 0, none⟩) 1 1) [x1] :=
  ⟨[u1], rdZ_at (us := [u1]) hb (by simp), fun i xs hi => by
    match i, hi with
    | 0, hi => obtain rfl : x1 = xs := by simpa using hi
               exact ⟨u1, rfl, h1⟩⟩
theorem rdSS_2 {W : World} {b : Nat} {u1 u2 : Value} {x1 x2 : List Int} (hb : W.heap[b]? = some (.cells #[u1, u2] 57 (0, 0))) (h1 : RdI W u1 x1) (h2 : RdI W u2 x2) : RdSS W (.slice (some ⟨b, 0, none⟩) 2 2) [x1, x2] :=
  ⟨[u1, u2], rdZ_at (us := [u1, u2]) hb (by simp), fun i xs hi => by
    match i, hi with
    | 0, hi => obtain rfl : x1 = xs := by simpa using hi
               exact ⟨u1, rfl, h1⟩
    | 1, hi => obtain rfl : x2 = xs := by simpa using hi
               exact ⟨u2, rfl, h2⟩⟩
theorem rdSS_3 {W : World} {b : Nat} {u1 u2 u3 : Value} {x1 x2 x3 : List Int} (hb : W.heap[b]? = some (.cells #[u1, u2, u3] 57 (0, 0))) (h1 : RdI W u1 x1) (h2 : RdI W u2 x2) (h3 : RdI W u3 x3) : RdSS W (.slice (some ⟨b, 0, none⟩) 3 3) [x1, x2, x3] :=
  ⟨[u1, u2, u3], rdZ_at (us := [u1, u2, u3]) hb (by simp), fun i xs hi => by
    match i, hi with
    | 0, hi => obtain rfl : x1 = xs := by simpa using hi
               exact ⟨u1, rfl, h1⟩
    | 1, hi => obtain rfl : x2 = xs := by simpa using hi
               exact ⟨u2, rfl, h2⟩
    | 2, hi => obtain rfl : x3 = xs := by simpa using hi
               exact ⟨u3, rfl, h3⟩⟩
theorem fm_take {α β : Type} (f : α → Option β) (xs : List α) {k : Nat} (h : k < xs.length) : (xs.take (k + 1)).filterMap f = (xs.take k).filterMap f ++ (match f xs[k] with | some y => [y] | none => []) := by
  rw [List.take_succ_eq_append_getElem h, List.filterMap_append]
  congr 1
  cases hh : f xs[k] <;> simp [hh]
theorem name_wp {P : Program} {c : Code} {Q : Exit → Act → World → Prop} {a : Act} {w : World} (F : World → Prop) (hF : F w) (h : ∀ W, F W → c.wp P Q a W) : c.wp P Q a w := h w hF
theorem add0D (g j : Nat) : (⟨g, 0, none⟩ : Addr).add j = ⟨g, j, none⟩ := by
  unfold Addr.add
  by_cases h : j = 0 <;> simp [h]
theorem kidN_pos {oth : List Bs} {t : Bs} (h : t ≠ []) : kidN oth t = varN oth t := by unfold kidN; rw [if_neg h]
theorem txt_ne (f : Fm) : txt f ≠ [] := fun e => by have := txt_pos f; rw [e] at this; simp at this
theorem strF_ne (f : Fm) : (strF f).toList.isEmpty = false := by
  rw [ByteArray.toList_eq, strF_list]
  cases h : txt f with
  | nil => exact absurd h (txt_ne f)
  | cons a r => rfl
set_option maxRecDepth 100000 in
set_option maxHeartbeats 3200000 in
theorem s_def_neg (oth : List Bs) (ov : Value) (a : Fm) (v : Int) (w : World) (h : Rd_StringS w ov oth) (hl : oth.length ≤ 1048576) (hw : WfF (.neg a) = true) (hy : (txt (.neg a)).length ≤ 80) (hv : 1 ≤ v ∧ v ≤ 500) (hx : 1 ≤ kidN oth (kA (.neg a)) ∧ kidN oth (kA (.neg a)) < v) :
    Calls Try.prog 56 #[ov, .string (strF (.neg a)), .int .i64 v] w (RetRo w (outD (.neg a) v (kidN oth (kA (.neg a))) (kidN oth (kB (.neg a))))) := by
  have HP := hd (fun w' => s_l22Parts (.neg a) hw (by omega) w')
  have HVA := hd (fun w' (hx : Ext w w') => s_l22Var oth ov (strF a) w' (h.ext hx) hl)
  rw [strF_list, ← kidN_pos (txt_ne a)] at HVA
  have ROK := hd (rawD_ok (y := .neg a) (z := 0) hv (fun _ => hx) (fun h => absurd rfl h))
  have ea := strF_ne a
  have eb : (ByteArray.empty).toList.isEmpty = true := by rw [ByteArray.toList_eq]; rfl
  have HO : Hid (outD (.neg a) v (kidN oth (kA (.neg a))) (kidN oth (kB (.neg a))) = outD (.neg a) v (kidN oth (txt a)) 0) := hd rfl
  rw [HO.out]
  rw [show kA (.neg a) = txt a from rfl] at ROK hx
  have HRW : Hid (rawD (.neg a) v (kidN oth (txt a)) 0 = [[kidN oth (txt a), v], [-kidN oth (txt a), -v]]) := hd rfl
  have HOU : Hid (outD (.neg a) v (kidN oth (txt a)) 0 = [[kidN oth (txt a), v], [-kidN oth (txt a), -v]].filterMap clO) := hd rfl
  rw [HRW.out] at ROK
  rw [HOU.out]
  generalize kidN oth (txt a) = x at *
  have ho : ((opF (.neg a)).toNat : Int) = 126 := rfl
  have HKK : Hid (kidA (.neg a) = strF a ∧ kidB (.neg a) = .empty) := hd ⟨rfl, rfl⟩
  rw [HKK.out.1, HKK.out.2] at HP
  generalize strF (.neg a) = s at *
  generalize strF a = sa at *
  generalize (opF (.neg a)).toNat = o at *
  have hw1 : IntKind.i64.wrap (-x) = -x := IntWalk.i64_in _ (by omega)
  have hw2 : IntKind.i64.wrap (-v) = -v := IntWalk.i64_in _ (by omega)
  go_enter Try.func56, Try.ntmps56
  go_wp2_with fail
  refine (HP.out _).mono ?_
  rintro e w1 ⟨rfl, n1, rfl⟩
  go_wp2_with fail
  refine (HVA.out _ (ext_drewN _ _)).mono ?_
  rintro e w1 ⟨rfl, rfl⟩
  go_wp2
  refine name_wp (fun W => ∃ W', W = W'.alloc (.cells #[] 57) ∧ Ext w W' ∧ RdSS W' (.slice (some ⟨w.heap.size + 1 + 1 + 1, 0, none⟩) 2 2) ([[x, v], [-x, -v]]) ∧ W'.heap.size = w.heap.size + 1 + 1 + 1 + 1) ?_ ?_
  · exact ⟨_, rfl, by repeat (first | exact ext_drewN _ _ | exact Ext.refl _ | refine Ext.alloc ?_ _), (rdSS_2 (by repeat (first | exact blk_new _ (by simp) | refine blk_old ?_)) (rdI_litD (b := w.heap.size + 1) (xs := [x, v]) (by repeat (first | exact blk_new _ (by simp) | refine blk_old ?_)) (by simp)) (rdI_litD (b := w.heap.size + 1 + 1) (xs := [-x, -v]) (by repeat (first | exact blk_new _ (by simp) | refine blk_old ?_)) (by simp))), by simp⟩
  rintro _ ⟨W, rfl, hWX, hWR, hOB⟩
  have hWO : OutZ (W.alloc (.cells #[] 57)) W.heap.size (.slice (some ⟨w.heap.size + 1 + 1 + 1 + 1, 0, none⟩) 0 0) [] := outZ_emp0 (blk_new _ hOB) (by omega)
  have hWs := hWX.size
  obtain ⟨A9, c9, e9, h91, h92, hRA⟩ := hWR.form
  injection e9 with e91 e92 e93
  subst e91
  subst e93
  clear e92
  have HRE : Hid (([[x, v], [-x, -v]]).filterMap clO = (([[x, v], [-x, -v]] : List (List Int)).filterMap clO)) := hd rfl
  have HOK : Hid (∀ xs ∈ ([[x, v], [-x, -v]]), ClOk xs ∧ xs.length ≤ 3 ∧ ∀ l ∈ xs, -1000 ≤ l ∧ l ≤ 1000) := hd ROK.out
  have hnr : (([[x, v], [-x, -v]]) : List (List Int)).length = 2 := rfl
  have HWX := hd hWX
  have HWO := hd hWO
  clear hWX hWR hWO
  have HFT := hd (fun k (hk : k < (([[x, v], [-x, -v]]) : List (List Int)).length) => fm_take clO ([[x, v], [-x, -v]]) hk)
  have HFE : Hid ((([[x, v], [-x, -v]]).take 2).filterMap clO = (([[x, v], [-x, -v]] : List (List Int)).filterMap clO)) := hd (by rw [← HRE.out]; rfl)
  generalize hraw : (([[x, v], [-x, -v]]) : List (List Int)) = raw at *
  generalize hout : (([[x, v], [-x, -v]] : List (List Int)).filterMap clO) = res at *
  clear hraw hout HRE
  have HNR := hd hnr
  clear hnr h91 h92
  go_loopw [13, 14] (fun o i wr => ∃ (k : Nat) (zs : List Row), k ≤ 2 ∧ i = .int .i64 (k : Int) ∧ zs.length ≤ k ∧ OutZ wr W.heap.size o zs ∧ RowsZ wr W.heap.size wr.heap.size zs ∧ zs.map Prod.snd = (raw.take k).filterMap clO ∧ Ext W wr) (fun _ i _ => 2 - (intOf i).toNat)
  case atStart => exact ⟨0, [], by omega, rfl, by simp, HWO.out, RowsZ.nil _ _ _, rfl, Ext.new _ _⟩
  case round =>
    clear HWO
    obtain ⟨k, zs, hk, rfl, hzl, hO, hZ, hS, hx⟩ := hrel
    have HO := hd hO
    have HZ := hd hZ
    have HS := hd hS
    have HX := hd hx
    clear hO hZ hS hx
    by_cases hlt : k < 2
    · have hlr : k < raw.length := by rw [HNR.out]; exact hlt
      obtain ⟨a9, u9, ha9, hc9, hr9⟩ := RdSS.at_ hRA hlr
      injection ha9 with ha9
      subst ha9
      rw [add0D] at hc9
      replace hc9 := HX.out.cell hc9
      replace hr9 := hr9.ext HX.out
      obtain ⟨hco, hl3, hb3⟩ := HOK.out _ (List.getElem_mem hlr)
      have HFK := hd (HFT.out k hlr)
      have HB3 := hd hb3
      clear hco hb3
      generalize raw[k] = xs9 at *
      obtain ⟨A5, c5, rfl, -⟩ := hr9.form
      have HR9 := hd hr9
      clear hr9
      go_wp2_with fail
      refine (s_l2Of xs9 _ _ HR9.out (by omega) HB3).mono ?_
      cases hj : clO xs9 with
      | none =>
        rw [hj] at HFK
        clear hj
        rintro e w3 ⟨u3, rfl, hx3⟩
        go_wp2
        go_roundw
        case rel => exact ⟨k + 1, zs, by omega, by go_num, by omega, own_ext HO.out hx3, (HZ.out.ext hx3).hi_size, by rw [HFK.out, List.append_nil, HS.out], HX.out.trans hx3⟩
        case measure => simp [intOf]; omega
      | some c4 =>
        rw [hj] at HFK
        clear hj
        rintro e w3 ⟨u3, rfl, hu3, hx3⟩
        obtain ⟨A6, c6, rfl, -⟩ := OwnI.form hu3
        have HU3 := hd hu3
        have HX3 := hd hx3
        obtain ⟨A7, c7, e7, -⟩ := OutZ.form HO.out
        subst e7
        have hws := HX.out.size
        have hww := HWX.out.size
        have hw3 := hx3.size
        clear hu3 hx3
        go_wp2_with (at_builtin; (refine appZ (ys := [(.slice A6 c4.length c6, c4)]) _ (own_ext HO.out (HX3.out.alloc _)) (rdZ_at (us := [.slice A6 c4.length c6]) (heap_n1 _ _) (by simp)) (by intro u hu; simp at hu; rw [hu]; rfl) rfl _ _ rfl (by rfl) (by rfl) (by simp; omega) (by simp only [World.size_alloc]; omega) ?_); intro v5 w6 ho5 hg5 _)
        have hz1 : RowsZ w3 W.heap.size w3.heap.size (zs ++ [(.slice A6 c4.length c6, c4)]) := HZ.out.new HX3.out HU3.out (by omega) (Nat.le_refl _) (by omega)
        have hz2 := ((hz1.ext (Ext.new w3 (.cells #[.slice A6 c4.length c6] 57))).grownO (own_ext HO.out (HX3.out.alloc _)) hg5).hi_size
        have hx6 : Ext W w6 := ext_appS ((HX.out.trans HX3.out).alloc _) hg5 (fun g hg => (own_blocks HO.out g hg).1)
        go_roundw
        case rel => exact ⟨k + 1, _, by omega, by go_num, by simp; omega, ho5, hz2, by rw [List.map_append, HS.out, HFK.out]; rfl, hx6⟩
        case measure => simp [intOf]; omega
    · obtain rfl : k = 2 := by omega
      go_wp2
      go_ret
      exact ⟨_, zs, rfl, own_rebase HO.out hWs, HZ.out.lo_le hWs, by rw [HS.out, HFE.out], HWX.out.trans HX.out⟩
set_option maxRecDepth 100000 in
set_option maxHeartbeats 3200000 in
theorem s_def_zero (oth : List Bs) (ov : Value) (v : Int) (w : World) (hv : 1 ≤ v ∧ v ≤ 500) :
    Calls Try.prog 56 #[ov, .string (strF (.leaf 48)), .int .i64 v] w (RetRo w (outD (.leaf 48) v 0 0)) := by
  have HP := hd (fun w' => s_l22Parts (.leaf 48) (by decide) (by decide) w')
  have ROK := hd (rawD_ok (y := .leaf 48) (x := 0) (z := 0) hv (fun h => absurd rfl h) (fun h => absurd rfl h))
  have ea : (ByteArray.empty).toList.isEmpty = true := by rw [ByteArray.toList_eq]; rfl
  have HRW : Hid (rawD (.leaf 48) v 0 0 = [[-v]]) := hd rfl
  have HOU : Hid (outD (.leaf 48) v 0 0 = ([[-v]] : List (List Int)).filterMap clO) := hd rfl
  rw [HRW.out] at ROK
  rw [HOU.out]
  have ho : ((opF (.leaf 48)).toNat : Int) = 48 := rfl
  have HKK : Hid (kidA (.leaf 48) = .empty ∧ kidB (.leaf 48) = .empty) := hd ⟨rfl, rfl⟩
  rw [HKK.out.1, HKK.out.2] at HP
  generalize strF (.leaf 48) = s at *
  generalize (opF (.leaf 48)).toNat = o at *
  have hw2 : IntKind.i64.wrap (-v) = -v := IntWalk.i64_in _ (by omega)
  go_enter Try.func56, Try.ntmps56
  go_wp2_with fail
  refine (HP.out _).mono ?_
  rintro e w1 ⟨rfl, n1, rfl⟩
  go_wp2
  refine name_wp (fun W => ∃ W', W = W'.alloc (.cells #[] 57) ∧ Ext w W' ∧ RdSS W' (.slice (some ⟨w.heap.size + 1 + 1, 0, none⟩) 1 1) ([[-v]]) ∧ W'.heap.size = w.heap.size + 1 + 1 + 1) ?_ ?_
  · exact ⟨_, rfl, by repeat (first | exact ext_drewN _ _ | exact Ext.refl _ | refine Ext.alloc ?_ _), (rdSS_1 (by repeat (first | exact blk_new _ (by simp) | refine blk_old ?_)) (rdI_litD (b := w.heap.size + 1) (xs := [-v]) (by repeat (first | exact blk_new _ (by simp) | refine blk_old ?_)) (by simp))), by simp⟩
  rintro _ ⟨W, rfl, hWX, hWR, hOB⟩
  have hWO : OutZ (W.alloc (.cells #[] 57)) W.heap.size (.slice (some ⟨w.heap.size + 1 + 1 + 1, 0, none⟩) 0 0) [] := outZ_emp0 (blk_new _ hOB) (by omega)
  have hWs := hWX.size
  obtain ⟨A9, c9, e9, h91, h92, hRA⟩ := hWR.form
  injection e9 with e91 e92 e93
  subst e91
  subst e93
  clear e92
  have HRE : Hid (([[-v]]).filterMap clO = (([[-v]] : List (List Int)).filterMap clO)) := hd rfl
  have HOK : Hid (∀ xs ∈ ([[-v]]), ClOk xs ∧ xs.length ≤ 3 ∧ ∀ l ∈ xs, -1000 ≤ l ∧ l ≤ 1000) := hd ROK.out
  have hnr : (([[-v]]) : List (List Int)).length = 1 := rfl
  have HWX := hd hWX
  have HWO := hd hWO
  clear hWX hWR hWO
  have HFT := hd (fun k (hk : k < (([[-v]]) : List (List Int)).length) => fm_take clO ([[-v]]) hk)
  have HFE : Hid ((([[-v]]).take 1).filterMap clO = (([[-v]] : List (List Int)).filterMap clO)) := hd (by rw [← HRE.out]; rfl)
  generalize hraw : (([[-v]]) : List (List Int)) = raw at *
  generalize hout : (([[-v]] : List (List Int)).filterMap clO) = res at *
  clear hraw hout HRE
  have HNR := hd hnr
  clear hnr h91 h92
  go_loopw [13, 14] (fun o i wr => ∃ (k : Nat) (zs : List Row), k ≤ 1 ∧ i = .int .i64 (k : Int) ∧ zs.length ≤ k ∧ OutZ wr W.heap.size o zs ∧ RowsZ wr W.heap.size wr.heap.size zs ∧ zs.map Prod.snd = (raw.take k).filterMap clO ∧ Ext W wr) (fun _ i _ => 1 - (intOf i).toNat)
  case atStart => exact ⟨0, [], by omega, rfl, by simp, HWO.out, RowsZ.nil _ _ _, rfl, Ext.new _ _⟩
  case round =>
    clear HWO
    obtain ⟨k, zs, hk, rfl, hzl, hO, hZ, hS, hx⟩ := hrel
    have HO := hd hO
    have HZ := hd hZ
    have HS := hd hS
    have HX := hd hx
    clear hO hZ hS hx
    by_cases hlt : k < 1
    · have hlr : k < raw.length := by rw [HNR.out]; exact hlt
      obtain ⟨a9, u9, ha9, hc9, hr9⟩ := RdSS.at_ hRA hlr
      injection ha9 with ha9
      subst ha9
      rw [add0D] at hc9
      replace hc9 := HX.out.cell hc9
      replace hr9 := hr9.ext HX.out
      obtain ⟨hco, hl3, hb3⟩ := HOK.out _ (List.getElem_mem hlr)
      have HFK := hd (HFT.out k hlr)
      have HB3 := hd hb3
      clear hco hb3
      generalize raw[k] = xs9 at *
      obtain ⟨A5, c5, rfl, -⟩ := hr9.form
      have HR9 := hd hr9
      clear hr9
      go_wp2_with fail
      refine (s_l2Of xs9 _ _ HR9.out (by omega) HB3).mono ?_
      cases hj : clO xs9 with
      | none =>
        rw [hj] at HFK
        clear hj
        rintro e w3 ⟨u3, rfl, hx3⟩
        go_wp2
        go_roundw
        case rel => exact ⟨k + 1, zs, by omega, by go_num, by omega, own_ext HO.out hx3, (HZ.out.ext hx3).hi_size, by rw [HFK.out, List.append_nil, HS.out], HX.out.trans hx3⟩
        case measure => simp [intOf]; omega
      | some c4 =>
        rw [hj] at HFK
        clear hj
        rintro e w3 ⟨u3, rfl, hu3, hx3⟩
        obtain ⟨A6, c6, rfl, -⟩ := OwnI.form hu3
        have HU3 := hd hu3
        have HX3 := hd hx3
        obtain ⟨A7, c7, e7, -⟩ := OutZ.form HO.out
        subst e7
        have hws := HX.out.size
        have hww := HWX.out.size
        have hw3 := hx3.size
        clear hu3 hx3
        go_wp2_with (at_builtin; (refine appZ (ys := [(.slice A6 c4.length c6, c4)]) _ (own_ext HO.out (HX3.out.alloc _)) (rdZ_at (us := [.slice A6 c4.length c6]) (heap_n1 _ _) (by simp)) (by intro u hu; simp at hu; rw [hu]; rfl) rfl _ _ rfl (by rfl) (by rfl) (by simp; omega) (by simp only [World.size_alloc]; omega) ?_); intro v5 w6 ho5 hg5 _)
        have hz1 : RowsZ w3 W.heap.size w3.heap.size (zs ++ [(.slice A6 c4.length c6, c4)]) := HZ.out.new HX3.out HU3.out (by omega) (Nat.le_refl _) (by omega)
        have hz2 := ((hz1.ext (Ext.new w3 (.cells #[.slice A6 c4.length c6] 57))).grownO (own_ext HO.out (HX3.out.alloc _)) hg5).hi_size
        have hx6 : Ext W w6 := ext_appS ((HX.out.trans HX3.out).alloc _) hg5 (fun g hg => (own_blocks HO.out g hg).1)
        go_roundw
        case rel => exact ⟨k + 1, _, by omega, by go_num, by simp; omega, ho5, hz2, by rw [List.map_append, HS.out, HFK.out]; rfl, hx6⟩
        case measure => simp [intOf]; omega
    · obtain rfl : k = 1 := by omega
      go_wp2
      go_ret
      exact ⟨_, zs, rfl, own_rebase HO.out hWs, HZ.out.lo_le hWs, by rw [HS.out, HFE.out], HWX.out.trans HX.out⟩
set_option maxRecDepth 100000 in
set_option maxHeartbeats 3200000 in
theorem s_def_one (oth : List Bs) (ov : Value) (v : Int) (w : World) (hv : 1 ≤ v ∧ v ≤ 500) :
    Calls Try.prog 56 #[ov, .string (strF (.leaf 49)), .int .i64 v] w (RetRo w (outD (.leaf 49) v 0 0)) := by
  have HP := hd (fun w' => s_l22Parts (.leaf 49) (by decide) (by decide) w')
  have ROK := hd (rawD_ok (y := .leaf 49) (x := 0) (z := 0) hv (fun h => absurd rfl h) (fun h => absurd rfl h))
  have ea : (ByteArray.empty).toList.isEmpty = true := by rw [ByteArray.toList_eq]; rfl
  have HRW : Hid (rawD (.leaf 49) v 0 0 = [[v]]) := hd rfl
  have HOU : Hid (outD (.leaf 49) v 0 0 = ([[v]] : List (List Int)).filterMap clO) := hd rfl
  rw [HRW.out] at ROK
  rw [HOU.out]
  have ho : ((opF (.leaf 49)).toNat : Int) = 49 := rfl
  have HKK : Hid (kidA (.leaf 49) = .empty ∧ kidB (.leaf 49) = .empty) := hd ⟨rfl, rfl⟩
  rw [HKK.out.1, HKK.out.2] at HP
  generalize strF (.leaf 49) = s at *
  generalize (opF (.leaf 49)).toNat = o at *
  have hw2 : IntKind.i64.wrap (-v) = -v := IntWalk.i64_in _ (by omega)
  go_enter Try.func56, Try.ntmps56
  go_wp2_with fail
  refine (HP.out _).mono ?_
  rintro e w1 ⟨rfl, n1, rfl⟩
  go_wp2
  refine name_wp (fun W => ∃ W', W = W'.alloc (.cells #[] 57) ∧ Ext w W' ∧ RdSS W' (.slice (some ⟨w.heap.size + 1 + 1, 0, none⟩) 1 1) ([[v]]) ∧ W'.heap.size = w.heap.size + 1 + 1 + 1) ?_ ?_
  · exact ⟨_, rfl, by repeat (first | exact ext_drewN _ _ | exact Ext.refl _ | refine Ext.alloc ?_ _), (rdSS_1 (by repeat (first | exact blk_new _ (by simp) | refine blk_old ?_)) (rdI_litD (b := w.heap.size + 1) (xs := [v]) (by repeat (first | exact blk_new _ (by simp) | refine blk_old ?_)) (by simp))), by simp⟩
  rintro _ ⟨W, rfl, hWX, hWR, hOB⟩
  have hWO : OutZ (W.alloc (.cells #[] 57)) W.heap.size (.slice (some ⟨w.heap.size + 1 + 1 + 1, 0, none⟩) 0 0) [] := outZ_emp0 (blk_new _ hOB) (by omega)
  have hWs := hWX.size
  obtain ⟨A9, c9, e9, h91, h92, hRA⟩ := hWR.form
  injection e9 with e91 e92 e93
  subst e91
  subst e93
  clear e92
  have HRE : Hid (([[v]]).filterMap clO = (([[v]] : List (List Int)).filterMap clO)) := hd rfl
  have HOK : Hid (∀ xs ∈ ([[v]]), ClOk xs ∧ xs.length ≤ 3 ∧ ∀ l ∈ xs, -1000 ≤ l ∧ l ≤ 1000) := hd ROK.out
  have hnr : (([[v]]) : List (List Int)).length = 1 := rfl
  have HWX := hd hWX
  have HWO := hd hWO
  clear hWX hWR hWO
  have HFT := hd (fun k (hk : k < (([[v]]) : List (List Int)).length) => fm_take clO ([[v]]) hk)
  have HFE : Hid ((([[v]]).take 1).filterMap clO = (([[v]] : List (List Int)).filterMap clO)) := hd (by rw [← HRE.out]; rfl)
  generalize hraw : (([[v]]) : List (List Int)) = raw at *
  generalize hout : (([[v]] : List (List Int)).filterMap clO) = res at *
  clear hraw hout HRE
  have HNR := hd hnr
  clear hnr h91 h92
  go_loopw [13, 14] (fun o i wr => ∃ (k : Nat) (zs : List Row), k ≤ 1 ∧ i = .int .i64 (k : Int) ∧ zs.length ≤ k ∧ OutZ wr W.heap.size o zs ∧ RowsZ wr W.heap.size wr.heap.size zs ∧ zs.map Prod.snd = (raw.take k).filterMap clO ∧ Ext W wr) (fun _ i _ => 1 - (intOf i).toNat)
  case atStart => exact ⟨0, [], by omega, rfl, by simp, HWO.out, RowsZ.nil _ _ _, rfl, Ext.new _ _⟩
  case round =>
    clear HWO
    obtain ⟨k, zs, hk, rfl, hzl, hO, hZ, hS, hx⟩ := hrel
    have HO := hd hO
    have HZ := hd hZ
    have HS := hd hS
    have HX := hd hx
    clear hO hZ hS hx
    by_cases hlt : k < 1
    · have hlr : k < raw.length := by rw [HNR.out]; exact hlt
      obtain ⟨a9, u9, ha9, hc9, hr9⟩ := RdSS.at_ hRA hlr
      injection ha9 with ha9
      subst ha9
      rw [add0D] at hc9
      replace hc9 := HX.out.cell hc9
      replace hr9 := hr9.ext HX.out
      obtain ⟨hco, hl3, hb3⟩ := HOK.out _ (List.getElem_mem hlr)
      have HFK := hd (HFT.out k hlr)
      have HB3 := hd hb3
      clear hco hb3
      generalize raw[k] = xs9 at *
      obtain ⟨A5, c5, rfl, -⟩ := hr9.form
      have HR9 := hd hr9
      clear hr9
      go_wp2_with fail
      refine (s_l2Of xs9 _ _ HR9.out (by omega) HB3).mono ?_
      cases hj : clO xs9 with
      | none =>
        rw [hj] at HFK
        clear hj
        rintro e w3 ⟨u3, rfl, hx3⟩
        go_wp2
        go_roundw
        case rel => exact ⟨k + 1, zs, by omega, by go_num, by omega, own_ext HO.out hx3, (HZ.out.ext hx3).hi_size, by rw [HFK.out, List.append_nil, HS.out], HX.out.trans hx3⟩
        case measure => simp [intOf]; omega
      | some c4 =>
        rw [hj] at HFK
        clear hj
        rintro e w3 ⟨u3, rfl, hu3, hx3⟩
        obtain ⟨A6, c6, rfl, -⟩ := OwnI.form hu3
        have HU3 := hd hu3
        have HX3 := hd hx3
        obtain ⟨A7, c7, e7, -⟩ := OutZ.form HO.out
        subst e7
        have hws := HX.out.size
        have hww := HWX.out.size
        have hw3 := hx3.size
        clear hu3 hx3
        go_wp2_with (at_builtin; (refine appZ (ys := [(.slice A6 c4.length c6, c4)]) _ (own_ext HO.out (HX3.out.alloc _)) (rdZ_at (us := [.slice A6 c4.length c6]) (heap_n1 _ _) (by simp)) (by intro u hu; simp at hu; rw [hu]; rfl) rfl _ _ rfl (by rfl) (by rfl) (by simp; omega) (by simp only [World.size_alloc]; omega) ?_); intro v5 w6 ho5 hg5 _)
        have hz1 : RowsZ w3 W.heap.size w3.heap.size (zs ++ [(.slice A6 c4.length c6, c4)]) := HZ.out.new HX3.out HU3.out (by omega) (Nat.le_refl _) (by omega)
        have hz2 := ((hz1.ext (Ext.new w3 (.cells #[.slice A6 c4.length c6] 57))).grownO (own_ext HO.out (HX3.out.alloc _)) hg5).hi_size
        have hx6 : Ext W w6 := ext_appS ((HX.out.trans HX3.out).alloc _) hg5 (fun g hg => (own_blocks HO.out g hg).1)
        go_roundw
        case rel => exact ⟨k + 1, _, by omega, by go_num, by simp; omega, ho5, hz2, by rw [List.map_append, HS.out, HFK.out]; rfl, hx6⟩
        case measure => simp [intOf]; omega
    · obtain rfl : k = 1 := by omega
      go_wp2
      go_ret
      exact ⟨_, zs, rfl, own_rebase HO.out hWs, HZ.out.lo_le hWs, by rw [HS.out, HFE.out], HWX.out.trans HX.out⟩
set_option maxRecDepth 100000 in
set_option maxHeartbeats 3200000 in
theorem s_def_and (oth : List Bs) (ov : Value) (a b : Fm) (v : Int) (w : World) (h : Rd_StringS w ov oth) (hl : oth.length ≤ 1048576) (hw : WfF (.bin 38 a b) = true) (hy : (txt (.bin 38 a b)).length ≤ 80) (hv : 1 ≤ v ∧ v ≤ 500) (hx : 1 ≤ kidN oth (txt a) ∧ kidN oth (txt a) < v) (hz : 1 ≤ kidN oth (txt b) ∧ kidN oth (txt b) < v) :
    Calls Try.prog 56 #[ov, .string (strF (.bin 38 a b)), .int .i64 v] w (RetRo w (outD (.bin 38 a b) v (kidN oth (txt a)) (kidN oth (txt b)))) := by
  have HP := hd (fun w' => s_l22Parts (.bin 38 a b) hw (by omega) w')
  have HVA := hd (fun w' (hx : Ext w w') => s_l22Var oth ov (strF a) w' (h.ext hx) hl)
  have HVB := hd (fun w' (hx : Ext w w') => s_l22Var oth ov (strF b) w' (h.ext hx) hl)
  rw [strF_list, ← kidN_pos (txt_ne a)] at HVA
  rw [strF_list, ← kidN_pos (txt_ne b)] at HVB
  have ROK := hd (rawD_ok (y := .bin 38 a b) hv (fun _ => hx) (fun _ => hz))
  have ea := strF_ne a
  have eb := strF_ne b
  have HRW : Hid (rawD (.bin 38 a b) v (kidN oth (txt a)) (kidN oth (txt b)) = (fun x z => [[x, -v], [z, -v], [-x, -z, v]]) (kidN oth (txt a)) (kidN oth (txt b))) := hd rfl
  have HOU : Hid (outD (.bin 38 a b) v (kidN oth (txt a)) (kidN oth (txt b)) = ((fun x z => [[x, -v], [z, -v], [-x, -z, v]]) (kidN oth (txt a)) (kidN oth (txt b))).filterMap clO) := hd rfl
  rw [HRW.out] at ROK
  rw [HOU.out]
  dsimp only at ROK ⊢
  generalize kidN oth (txt a) = x at *
  generalize kidN oth (txt b) = z at *
  have ho : ((opF (.bin 38 a b)).toNat : Int) = 38 := rfl
  have HKK : Hid (kidA (.bin 38 a b) = strF a ∧ kidB (.bin 38 a b) = strF b) := hd ⟨rfl, rfl⟩
  rw [HKK.out.1, HKK.out.2] at HP
  generalize strF (.bin 38 a b) = s at *
  generalize strF a = sa at *
  generalize strF b = sb at *
  generalize (opF (.bin 38 a b)).toNat = o at *
  have hw1 : IntKind.i64.wrap (-x) = -x := IntWalk.i64_in _ (by omega)
  have hw2 : IntKind.i64.wrap (-v) = -v := IntWalk.i64_in _ (by omega)
  have hw3 : IntKind.i64.wrap (-z) = -z := IntWalk.i64_in _ (by omega)
  go_enter Try.func56, Try.ntmps56
  go_wp2_with fail
  refine (HP.out _).mono ?_
  rintro e w1 ⟨rfl, n1, rfl⟩
  go_wp2_with fail
  refine (HVA.out _ (ext_drewN _ _)).mono ?_
  rintro e w1 ⟨rfl, rfl⟩
  go_wp2_with fail
  refine (HVB.out _ (ext_drewN _ _)).mono ?_
  rintro e w1 ⟨rfl, rfl⟩
  go_wp2
  refine name_wp (fun W => ∃ W', W = W'.alloc (.cells #[] 57) ∧ Ext w W' ∧ RdSS W' (.slice (some ⟨w.heap.size + 1 + 1 + 1 + 1, 0, none⟩) 3 3) ([[x, -v], [z, -v], [-x, -z, v]]) ∧ W'.heap.size = w.heap.size + 1 + 1 + 1 + 1 + 1) ?_ ?_
  · exact ⟨_, rfl, by repeat (first | exact ext_drewN _ _ | exact Ext.refl _ | refine Ext.alloc ?_ _), (rdSS_3 (by repeat (first | exact blk_new _ (by simp) | refine blk_old ?_)) (rdI_litD (b := w.heap.size + 1) (xs := [x, -v]) (by repeat (first | exact blk_new _ (by simp) | refine blk_old ?_)) (by simp)) (rdI_litD (b := w.heap.size + 1 + 1) (xs := [z, -v]) (by repeat (first | exact blk_new _ (by simp) | refine blk_old ?_)) (by simp)) (rdI_litD (b := w.heap.size + 1 + 1 + 1) (xs := [-x, -z, v]) (by repeat (first | exact blk_new _ (by simp) | refine blk_old ?_)) (by simp))), by simp⟩
  rintro _ ⟨W, rfl, hWX, hWR, hOB⟩
  have hWO : OutZ (W.alloc (.cells #[] 57)) W.heap.size (.slice (some ⟨w.heap.size + 1 + 1 + 1 + 1 + 1, 0, none⟩) 0 0) [] := outZ_emp0 (blk_new _ hOB) (by omega)
  have hWs := hWX.size
  obtain ⟨A9, c9, e9, h91, h92, hRA⟩ := hWR.form
  injection e9 with e91 e92 e93
  subst e91
  subst e93
  clear e92
  have HRE : Hid (([[x, -v], [z, -v], [-x, -z, v]]).filterMap clO = (([[x, -v], [z, -v], [-x, -z, v]] : List (List Int)).filterMap clO)) := hd rfl
  have HOK : Hid (∀ xs ∈ ([[x, -v], [z, -v], [-x, -z, v]]), ClOk xs ∧ xs.length ≤ 3 ∧ ∀ l ∈ xs, -1000 ≤ l ∧ l ≤ 1000) := hd ROK.out
  have hnr : (([[x, -v], [z, -v], [-x, -z, v]]) : List (List Int)).length = 3 := rfl
  have HWX := hd hWX
  have HWO := hd hWO
  clear hWX hWR hWO
  have HFT := hd (fun k (hk : k < (([[x, -v], [z, -v], [-x, -z, v]]) : List (List Int)).length) => fm_take clO ([[x, -v], [z, -v], [-x, -z, v]]) hk)
  have HFE : Hid ((([[x, -v], [z, -v], [-x, -z, v]]).take 3).filterMap clO = (([[x, -v], [z, -v], [-x, -z, v]] : List (List Int)).filterMap clO)) := hd (by rw [← HRE.out]; rfl)
  generalize hraw : (([[x, -v], [z, -v], [-x, -z, v]]) : List (List Int)) = raw at *
  generalize hout : (([[x, -v], [z, -v], [-x, -z, v]] : List (List Int)).filterMap clO) = res at *
  clear hraw hout HRE
  have HNR := hd hnr
  clear hnr h91 h92
  go_loopw [13, 14] (fun o i wr => ∃ (k : Nat) (zs : List Row), k ≤ 3 ∧ i = .int .i64 (k : Int) ∧ zs.length ≤ k ∧ OutZ wr W.heap.size o zs ∧ RowsZ wr W.heap.size wr.heap.size zs ∧ zs.map Prod.snd = (raw.take k).filterMap clO ∧ Ext W wr) (fun _ i _ => 3 - (intOf i).toNat)
  case atStart => exact ⟨0, [], by omega, rfl, by simp, HWO.out, RowsZ.nil _ _ _, rfl, Ext.new _ _⟩
  case round =>
    clear HWO
    obtain ⟨k, zs, hk, rfl, hzl, hO, hZ, hS, hx⟩ := hrel
    have HO := hd hO
    have HZ := hd hZ
    have HS := hd hS
    have HX := hd hx
    clear hO hZ hS hx
    by_cases hlt : k < 3
    · have hlr : k < raw.length := by rw [HNR.out]; exact hlt
      obtain ⟨a9, u9, ha9, hc9, hr9⟩ := RdSS.at_ hRA hlr
      injection ha9 with ha9
      subst ha9
      rw [add0D] at hc9
      replace hc9 := HX.out.cell hc9
      replace hr9 := hr9.ext HX.out
      obtain ⟨hco, hl3, hb3⟩ := HOK.out _ (List.getElem_mem hlr)
      have HFK := hd (HFT.out k hlr)
      have HB3 := hd hb3
      clear hco hb3
      generalize raw[k] = xs9 at *
      obtain ⟨A5, c5, rfl, -⟩ := hr9.form
      have HR9 := hd hr9
      clear hr9
      go_wp2_with fail
      refine (s_l2Of xs9 _ _ HR9.out (by omega) HB3).mono ?_
      cases hj : clO xs9 with
      | none =>
        rw [hj] at HFK
        clear hj
        rintro e w3 ⟨u3, rfl, hx3⟩
        go_wp2
        go_roundw
        case rel => exact ⟨k + 1, zs, by omega, by go_num, by omega, own_ext HO.out hx3, (HZ.out.ext hx3).hi_size, by rw [HFK.out, List.append_nil, HS.out], HX.out.trans hx3⟩
        case measure => simp [intOf]; omega
      | some c4 =>
        rw [hj] at HFK
        clear hj
        rintro e w3 ⟨u3, rfl, hu3, hx3⟩
        obtain ⟨A6, c6, rfl, -⟩ := OwnI.form hu3
        have HU3 := hd hu3
        have HX3 := hd hx3
        obtain ⟨A7, c7, e7, -⟩ := OutZ.form HO.out
        subst e7
        have hws := HX.out.size
        have hww := HWX.out.size
        have hw3 := hx3.size
        clear hu3 hx3
        go_wp2_with (at_builtin; (refine appZ (ys := [(.slice A6 c4.length c6, c4)]) _ (own_ext HO.out (HX3.out.alloc _)) (rdZ_at (us := [.slice A6 c4.length c6]) (heap_n1 _ _) (by simp)) (by intro u hu; simp at hu; rw [hu]; rfl) rfl _ _ rfl (by rfl) (by rfl) (by simp; omega) (by simp only [World.size_alloc]; omega) ?_); intro v5 w6 ho5 hg5 _)
        have hz1 : RowsZ w3 W.heap.size w3.heap.size (zs ++ [(.slice A6 c4.length c6, c4)]) := HZ.out.new HX3.out HU3.out (by omega) (Nat.le_refl _) (by omega)
        have hz2 := ((hz1.ext (Ext.new w3 (.cells #[.slice A6 c4.length c6] 57))).grownO (own_ext HO.out (HX3.out.alloc _)) hg5).hi_size
        have hx6 : Ext W w6 := ext_appS ((HX.out.trans HX3.out).alloc _) hg5 (fun g hg => (own_blocks HO.out g hg).1)
        go_roundw
        case rel => exact ⟨k + 1, _, by omega, by go_num, by simp; omega, ho5, hz2, by rw [List.map_append, HS.out, HFK.out]; rfl, hx6⟩
        case measure => simp [intOf]; omega
    · obtain rfl : k = 3 := by omega
      go_wp2
      go_ret
      exact ⟨_, zs, rfl, own_rebase HO.out hWs, HZ.out.lo_le hWs, by rw [HS.out, HFE.out], HWX.out.trans HX.out⟩
set_option maxRecDepth 100000 in
set_option maxHeartbeats 3200000 in
theorem s_def_or (oth : List Bs) (ov : Value) (a b : Fm) (v : Int) (w : World) (h : Rd_StringS w ov oth) (hl : oth.length ≤ 1048576) (hw : WfF (.bin 124 a b) = true) (hy : (txt (.bin 124 a b)).length ≤ 80) (hv : 1 ≤ v ∧ v ≤ 500) (hx : 1 ≤ kidN oth (txt a) ∧ kidN oth (txt a) < v) (hz : 1 ≤ kidN oth (txt b) ∧ kidN oth (txt b) < v) :
    Calls Try.prog 56 #[ov, .string (strF (.bin 124 a b)), .int .i64 v] w (RetRo w (outD (.bin 124 a b) v (kidN oth (txt a)) (kidN oth (txt b)))) := by
  have HP := hd (fun w' => s_l22Parts (.bin 124 a b) hw (by omega) w')
  have HVA := hd (fun w' (hx : Ext w w') => s_l22Var oth ov (strF a) w' (h.ext hx) hl)
  have HVB := hd (fun w' (hx : Ext w w') => s_l22Var oth ov (strF b) w' (h.ext hx) hl)
  rw [strF_list, ← kidN_pos (txt_ne a)] at HVA
  rw [strF_list, ← kidN_pos (txt_ne b)] at HVB
  have ROK := hd (rawD_ok (y := .bin 124 a b) hv (fun _ => hx) (fun _ => hz))
  have ea := strF_ne a
  have eb := strF_ne b
  have HRW : Hid (rawD (.bin 124 a b) v (kidN oth (txt a)) (kidN oth (txt b)) = (fun x z => [[-x, v], [-z, v], [x, z, -v]]) (kidN oth (txt a)) (kidN oth (txt b))) := hd rfl
  have HOU : Hid (outD (.bin 124 a b) v (kidN oth (txt a)) (kidN oth (txt b)) = ((fun x z => [[-x, v], [-z, v], [x, z, -v]]) (kidN oth (txt a)) (kidN oth (txt b))).filterMap clO) := hd rfl
  rw [HRW.out] at ROK
  rw [HOU.out]
  dsimp only at ROK ⊢
  generalize kidN oth (txt a) = x at *
  generalize kidN oth (txt b) = z at *
  have ho : ((opF (.bin 124 a b)).toNat : Int) = 124 := rfl
  have HKK : Hid (kidA (.bin 124 a b) = strF a ∧ kidB (.bin 124 a b) = strF b) := hd ⟨rfl, rfl⟩
  rw [HKK.out.1, HKK.out.2] at HP
  generalize strF (.bin 124 a b) = s at *
  generalize strF a = sa at *
  generalize strF b = sb at *
  generalize (opF (.bin 124 a b)).toNat = o at *
  have hw1 : IntKind.i64.wrap (-x) = -x := IntWalk.i64_in _ (by omega)
  have hw2 : IntKind.i64.wrap (-v) = -v := IntWalk.i64_in _ (by omega)
  have hw3 : IntKind.i64.wrap (-z) = -z := IntWalk.i64_in _ (by omega)
  go_enter Try.func56, Try.ntmps56
  go_wp2_with fail
  refine (HP.out _).mono ?_
  rintro e w1 ⟨rfl, n1, rfl⟩
  go_wp2_with fail
  refine (HVA.out _ (ext_drewN _ _)).mono ?_
  rintro e w1 ⟨rfl, rfl⟩
  go_wp2_with fail
  refine (HVB.out _ (ext_drewN _ _)).mono ?_
  rintro e w1 ⟨rfl, rfl⟩
  go_wp2
  refine name_wp (fun W => ∃ W', W = W'.alloc (.cells #[] 57) ∧ Ext w W' ∧ RdSS W' (.slice (some ⟨w.heap.size + 1 + 1 + 1 + 1, 0, none⟩) 3 3) ([[-x, v], [-z, v], [x, z, -v]]) ∧ W'.heap.size = w.heap.size + 1 + 1 + 1 + 1 + 1) ?_ ?_
  · exact ⟨_, rfl, by repeat (first | exact ext_drewN _ _ | exact Ext.refl _ | refine Ext.alloc ?_ _), (rdSS_3 (by repeat (first | exact blk_new _ (by simp) | refine blk_old ?_)) (rdI_litD (b := w.heap.size + 1) (xs := [-x, v]) (by repeat (first | exact blk_new _ (by simp) | refine blk_old ?_)) (by simp)) (rdI_litD (b := w.heap.size + 1 + 1) (xs := [-z, v]) (by repeat (first | exact blk_new _ (by simp) | refine blk_old ?_)) (by simp)) (rdI_litD (b := w.heap.size + 1 + 1 + 1) (xs := [x, z, -v]) (by repeat (first | exact blk_new _ (by simp) | refine blk_old ?_)) (by simp))), by simp⟩
  rintro _ ⟨W, rfl, hWX, hWR, hOB⟩
  have hWO : OutZ (W.alloc (.cells #[] 57)) W.heap.size (.slice (some ⟨w.heap.size + 1 + 1 + 1 + 1 + 1, 0, none⟩) 0 0) [] := outZ_emp0 (blk_new _ hOB) (by omega)
  have hWs := hWX.size
  obtain ⟨A9, c9, e9, h91, h92, hRA⟩ := hWR.form
  injection e9 with e91 e92 e93
  subst e91
  subst e93
  clear e92
  have HRE : Hid (([[-x, v], [-z, v], [x, z, -v]]).filterMap clO = (([[-x, v], [-z, v], [x, z, -v]] : List (List Int)).filterMap clO)) := hd rfl
  have HOK : Hid (∀ xs ∈ ([[-x, v], [-z, v], [x, z, -v]]), ClOk xs ∧ xs.length ≤ 3 ∧ ∀ l ∈ xs, -1000 ≤ l ∧ l ≤ 1000) := hd ROK.out
  have hnr : (([[-x, v], [-z, v], [x, z, -v]]) : List (List Int)).length = 3 := rfl
  have HWX := hd hWX
  have HWO := hd hWO
  clear hWX hWR hWO
  have HFT := hd (fun k (hk : k < (([[-x, v], [-z, v], [x, z, -v]]) : List (List Int)).length) => fm_take clO ([[-x, v], [-z, v], [x, z, -v]]) hk)
  have HFE : Hid ((([[-x, v], [-z, v], [x, z, -v]]).take 3).filterMap clO = (([[-x, v], [-z, v], [x, z, -v]] : List (List Int)).filterMap clO)) := hd (by rw [← HRE.out]; rfl)
  generalize hraw : (([[-x, v], [-z, v], [x, z, -v]]) : List (List Int)) = raw at *
  generalize hout : (([[-x, v], [-z, v], [x, z, -v]] : List (List Int)).filterMap clO) = res at *
  clear hraw hout HRE
  have HNR := hd hnr
  clear hnr h91 h92
  go_loopw [13, 14] (fun o i wr => ∃ (k : Nat) (zs : List Row), k ≤ 3 ∧ i = .int .i64 (k : Int) ∧ zs.length ≤ k ∧ OutZ wr W.heap.size o zs ∧ RowsZ wr W.heap.size wr.heap.size zs ∧ zs.map Prod.snd = (raw.take k).filterMap clO ∧ Ext W wr) (fun _ i _ => 3 - (intOf i).toNat)
  case atStart => exact ⟨0, [], by omega, rfl, by simp, HWO.out, RowsZ.nil _ _ _, rfl, Ext.new _ _⟩
  case round =>
    clear HWO
    obtain ⟨k, zs, hk, rfl, hzl, hO, hZ, hS, hx⟩ := hrel
    have HO := hd hO
    have HZ := hd hZ
    have HS := hd hS
    have HX := hd hx
    clear hO hZ hS hx
    by_cases hlt : k < 3
    · have hlr : k < raw.length := by rw [HNR.out]; exact hlt
      obtain ⟨a9, u9, ha9, hc9, hr9⟩ := RdSS.at_ hRA hlr
      injection ha9 with ha9
      subst ha9
      rw [add0D] at hc9
      replace hc9 := HX.out.cell hc9
      replace hr9 := hr9.ext HX.out
      obtain ⟨hco, hl3, hb3⟩ := HOK.out _ (List.getElem_mem hlr)
      have HFK := hd (HFT.out k hlr)
      have HB3 := hd hb3
      clear hco hb3
      generalize raw[k] = xs9 at *
      obtain ⟨A5, c5, rfl, -⟩ := hr9.form
      have HR9 := hd hr9
      clear hr9
      go_wp2_with fail
      refine (s_l2Of xs9 _ _ HR9.out (by omega) HB3).mono ?_
      cases hj : clO xs9 with
      | none =>
        rw [hj] at HFK
        clear hj
        rintro e w3 ⟨u3, rfl, hx3⟩
        go_wp2
        go_roundw
        case rel => exact ⟨k + 1, zs, by omega, by go_num, by omega, own_ext HO.out hx3, (HZ.out.ext hx3).hi_size, by rw [HFK.out, List.append_nil, HS.out], HX.out.trans hx3⟩
        case measure => simp [intOf]; omega
      | some c4 =>
        rw [hj] at HFK
        clear hj
        rintro e w3 ⟨u3, rfl, hu3, hx3⟩
        obtain ⟨A6, c6, rfl, -⟩ := OwnI.form hu3
        have HU3 := hd hu3
        have HX3 := hd hx3
        obtain ⟨A7, c7, e7, -⟩ := OutZ.form HO.out
        subst e7
        have hws := HX.out.size
        have hww := HWX.out.size
        have hw3 := hx3.size
        clear hu3 hx3
        go_wp2_with (at_builtin; (refine appZ (ys := [(.slice A6 c4.length c6, c4)]) _ (own_ext HO.out (HX3.out.alloc _)) (rdZ_at (us := [.slice A6 c4.length c6]) (heap_n1 _ _) (by simp)) (by intro u hu; simp at hu; rw [hu]; rfl) rfl _ _ rfl (by rfl) (by rfl) (by simp; omega) (by simp only [World.size_alloc]; omega) ?_); intro v5 w6 ho5 hg5 _)
        have hz1 : RowsZ w3 W.heap.size w3.heap.size (zs ++ [(.slice A6 c4.length c6, c4)]) := HZ.out.new HX3.out HU3.out (by omega) (Nat.le_refl _) (by omega)
        have hz2 := ((hz1.ext (Ext.new w3 (.cells #[.slice A6 c4.length c6] 57))).grownO (own_ext HO.out (HX3.out.alloc _)) hg5).hi_size
        have hx6 : Ext W w6 := ext_appS ((HX.out.trans HX3.out).alloc _) hg5 (fun g hg => (own_blocks HO.out g hg).1)
        go_roundw
        case rel => exact ⟨k + 1, _, by omega, by go_num, by simp; omega, ho5, hz2, by rw [List.map_append, HS.out, HFK.out]; rfl, hx6⟩
        case measure => simp [intOf]; omega
    · obtain rfl : k = 3 := by omega
      go_wp2
      go_ret
      exact ⟨_, zs, rfl, own_rebase HO.out hWs, HZ.out.lo_le hWs, by rw [HS.out, HFE.out], HWX.out.trans HX.out⟩
set_option maxRecDepth 100000 in
set_option maxHeartbeats 3200000 in
theorem s_def_imp (oth : List Bs) (ov : Value) (a b : Fm) (v : Int) (w : World) (h : Rd_StringS w ov oth) (hl : oth.length ≤ 1048576) (hw : WfF (.bin 62 a b) = true) (hy : (txt (.bin 62 a b)).length ≤ 80) (hv : 1 ≤ v ∧ v ≤ 500) (hx : 1 ≤ kidN oth (txt a) ∧ kidN oth (txt a) < v) (hz : 1 ≤ kidN oth (txt b) ∧ kidN oth (txt b) < v) :
    Calls Try.prog 56 #[ov, .string (strF (.bin 62 a b)), .int .i64 v] w (RetRo w (outD (.bin 62 a b) v (kidN oth (txt a)) (kidN oth (txt b)))) := by
  have HP := hd (fun w' => s_l22Parts (.bin 62 a b) hw (by omega) w')
  have HVA := hd (fun w' (hx : Ext w w') => s_l22Var oth ov (strF a) w' (h.ext hx) hl)
  have HVB := hd (fun w' (hx : Ext w w') => s_l22Var oth ov (strF b) w' (h.ext hx) hl)
  rw [strF_list, ← kidN_pos (txt_ne a)] at HVA
  rw [strF_list, ← kidN_pos (txt_ne b)] at HVB
  have ROK := hd (rawD_ok (y := .bin 62 a b) hv (fun _ => hx) (fun _ => hz))
  have ea := strF_ne a
  have eb := strF_ne b
  have HRW : Hid (rawD (.bin 62 a b) v (kidN oth (txt a)) (kidN oth (txt b)) = (fun x z => [[x, v], [-z, v], [-x, z, -v]]) (kidN oth (txt a)) (kidN oth (txt b))) := hd rfl
  have HOU : Hid (outD (.bin 62 a b) v (kidN oth (txt a)) (kidN oth (txt b)) = ((fun x z => [[x, v], [-z, v], [-x, z, -v]]) (kidN oth (txt a)) (kidN oth (txt b))).filterMap clO) := hd rfl
  rw [HRW.out] at ROK
  rw [HOU.out]
  dsimp only at ROK ⊢
  generalize kidN oth (txt a) = x at *
  generalize kidN oth (txt b) = z at *
  have ho : ((opF (.bin 62 a b)).toNat : Int) = 62 := rfl
  have HKK : Hid (kidA (.bin 62 a b) = strF a ∧ kidB (.bin 62 a b) = strF b) := hd ⟨rfl, rfl⟩
  rw [HKK.out.1, HKK.out.2] at HP
  generalize strF (.bin 62 a b) = s at *
  generalize strF a = sa at *
  generalize strF b = sb at *
  generalize (opF (.bin 62 a b)).toNat = o at *
  have hw1 : IntKind.i64.wrap (-x) = -x := IntWalk.i64_in _ (by omega)
  have hw2 : IntKind.i64.wrap (-v) = -v := IntWalk.i64_in _ (by omega)
  have hw3 : IntKind.i64.wrap (-z) = -z := IntWalk.i64_in _ (by omega)
  go_enter Try.func56, Try.ntmps56
  go_wp2_with fail
  refine (HP.out _).mono ?_
  rintro e w1 ⟨rfl, n1, rfl⟩
  go_wp2_with fail
  refine (HVA.out _ (ext_drewN _ _)).mono ?_
  rintro e w1 ⟨rfl, rfl⟩
  go_wp2_with fail
  refine (HVB.out _ (ext_drewN _ _)).mono ?_
  rintro e w1 ⟨rfl, rfl⟩
  go_wp2
  refine name_wp (fun W => ∃ W', W = W'.alloc (.cells #[] 57) ∧ Ext w W' ∧ RdSS W' (.slice (some ⟨w.heap.size + 1 + 1 + 1 + 1, 0, none⟩) 3 3) ([[x, v], [-z, v], [-x, z, -v]]) ∧ W'.heap.size = w.heap.size + 1 + 1 + 1 + 1 + 1) ?_ ?_
  · exact ⟨_, rfl, by repeat (first | exact ext_drewN _ _ | exact Ext.refl _ | refine Ext.alloc ?_ _), (rdSS_3 (by repeat (first | exact blk_new _ (by simp) | refine blk_old ?_)) (rdI_litD (b := w.heap.size + 1) (xs := [x, v]) (by repeat (first | exact blk_new _ (by simp) | refine blk_old ?_)) (by simp)) (rdI_litD (b := w.heap.size + 1 + 1) (xs := [-z, v]) (by repeat (first | exact blk_new _ (by simp) | refine blk_old ?_)) (by simp)) (rdI_litD (b := w.heap.size + 1 + 1 + 1) (xs := [-x, z, -v]) (by repeat (first | exact blk_new _ (by simp) | refine blk_old ?_)) (by simp))), by simp⟩
  rintro _ ⟨W, rfl, hWX, hWR, hOB⟩
  have hWO : OutZ (W.alloc (.cells #[] 57)) W.heap.size (.slice (some ⟨w.heap.size + 1 + 1 + 1 + 1 + 1, 0, none⟩) 0 0) [] := outZ_emp0 (blk_new _ hOB) (by omega)
  have hWs := hWX.size
  obtain ⟨A9, c9, e9, h91, h92, hRA⟩ := hWR.form
  injection e9 with e91 e92 e93
  subst e91
  subst e93
  clear e92
  have HRE : Hid (([[x, v], [-z, v], [-x, z, -v]]).filterMap clO = (([[x, v], [-z, v], [-x, z, -v]] : List (List Int)).filterMap clO)) := hd rfl
  have HOK : Hid (∀ xs ∈ ([[x, v], [-z, v], [-x, z, -v]]), ClOk xs ∧ xs.length ≤ 3 ∧ ∀ l ∈ xs, -1000 ≤ l ∧ l ≤ 1000) := hd ROK.out
  have hnr : (([[x, v], [-z, v], [-x, z, -v]]) : List (List Int)).length = 3 := rfl
  have HWX := hd hWX
  have HWO := hd hWO
  clear hWX hWR hWO
  have HFT := hd (fun k (hk : k < (([[x, v], [-z, v], [-x, z, -v]]) : List (List Int)).length) => fm_take clO ([[x, v], [-z, v], [-x, z, -v]]) hk)
  have HFE : Hid ((([[x, v], [-z, v], [-x, z, -v]]).take 3).filterMap clO = (([[x, v], [-z, v], [-x, z, -v]] : List (List Int)).filterMap clO)) := hd (by rw [← HRE.out]; rfl)
  generalize hraw : (([[x, v], [-z, v], [-x, z, -v]]) : List (List Int)) = raw at *
  generalize hout : (([[x, v], [-z, v], [-x, z, -v]] : List (List Int)).filterMap clO) = res at *
  clear hraw hout HRE
  have HNR := hd hnr
  clear hnr h91 h92
  go_loopw [13, 14] (fun o i wr => ∃ (k : Nat) (zs : List Row), k ≤ 3 ∧ i = .int .i64 (k : Int) ∧ zs.length ≤ k ∧ OutZ wr W.heap.size o zs ∧ RowsZ wr W.heap.size wr.heap.size zs ∧ zs.map Prod.snd = (raw.take k).filterMap clO ∧ Ext W wr) (fun _ i _ => 3 - (intOf i).toNat)
  case atStart => exact ⟨0, [], by omega, rfl, by simp, HWO.out, RowsZ.nil _ _ _, rfl, Ext.new _ _⟩
  case round =>
    clear HWO
    obtain ⟨k, zs, hk, rfl, hzl, hO, hZ, hS, hx⟩ := hrel
    have HO := hd hO
    have HZ := hd hZ
    have HS := hd hS
    have HX := hd hx
    clear hO hZ hS hx
    by_cases hlt : k < 3
    · have hlr : k < raw.length := by rw [HNR.out]; exact hlt
      obtain ⟨a9, u9, ha9, hc9, hr9⟩ := RdSS.at_ hRA hlr
      injection ha9 with ha9
      subst ha9
      rw [add0D] at hc9
      replace hc9 := HX.out.cell hc9
      replace hr9 := hr9.ext HX.out
      obtain ⟨hco, hl3, hb3⟩ := HOK.out _ (List.getElem_mem hlr)
      have HFK := hd (HFT.out k hlr)
      have HB3 := hd hb3
      clear hco hb3
      generalize raw[k] = xs9 at *
      obtain ⟨A5, c5, rfl, -⟩ := hr9.form
      have HR9 := hd hr9
      clear hr9
      go_wp2_with fail
      refine (s_l2Of xs9 _ _ HR9.out (by omega) HB3).mono ?_
      cases hj : clO xs9 with
      | none =>
        rw [hj] at HFK
        clear hj
        rintro e w3 ⟨u3, rfl, hx3⟩
        go_wp2
        go_roundw
        case rel => exact ⟨k + 1, zs, by omega, by go_num, by omega, own_ext HO.out hx3, (HZ.out.ext hx3).hi_size, by rw [HFK.out, List.append_nil, HS.out], HX.out.trans hx3⟩
        case measure => simp [intOf]; omega
      | some c4 =>
        rw [hj] at HFK
        clear hj
        rintro e w3 ⟨u3, rfl, hu3, hx3⟩
        obtain ⟨A6, c6, rfl, -⟩ := OwnI.form hu3
        have HU3 := hd hu3
        have HX3 := hd hx3
        obtain ⟨A7, c7, e7, -⟩ := OutZ.form HO.out
        subst e7
        have hws := HX.out.size
        have hww := HWX.out.size
        have hw3 := hx3.size
        clear hu3 hx3
        go_wp2_with (at_builtin; (refine appZ (ys := [(.slice A6 c4.length c6, c4)]) _ (own_ext HO.out (HX3.out.alloc _)) (rdZ_at (us := [.slice A6 c4.length c6]) (heap_n1 _ _) (by simp)) (by intro u hu; simp at hu; rw [hu]; rfl) rfl _ _ rfl (by rfl) (by rfl) (by simp; omega) (by simp only [World.size_alloc]; omega) ?_); intro v5 w6 ho5 hg5 _)
        have hz1 : RowsZ w3 W.heap.size w3.heap.size (zs ++ [(.slice A6 c4.length c6, c4)]) := HZ.out.new HX3.out HU3.out (by omega) (Nat.le_refl _) (by omega)
        have hz2 := ((hz1.ext (Ext.new w3 (.cells #[.slice A6 c4.length c6] 57))).grownO (own_ext HO.out (HX3.out.alloc _)) hg5).hi_size
        have hx6 : Ext W w6 := ext_appS ((HX.out.trans HX3.out).alloc _) hg5 (fun g hg => (own_blocks HO.out g hg).1)
        go_roundw
        case rel => exact ⟨k + 1, _, by omega, by go_num, by simp; omega, ho5, hz2, by rw [List.map_append, HS.out, HFK.out]; rfl, hx6⟩
        case measure => simp [intOf]; omega
    · obtain rfl : k = 3 := by omega
      go_wp2
      go_ret
      exact ⟨_, zs, rfl, own_rebase HO.out hWs, HZ.out.lo_le hWs, by rw [HS.out, HFE.out], HWX.out.trans HX.out⟩
end Go.Proofs.Ytbdcomkbpapcaaa
