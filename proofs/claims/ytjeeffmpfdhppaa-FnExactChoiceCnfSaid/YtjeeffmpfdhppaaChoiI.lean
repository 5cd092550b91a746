/-
  ChoiceCnf: the program's side. Conditions: sizes up to 2^20.
-/
import Derived.Test.YtjeeffmpfdhppaaChoiS
import Derived.Test.YtjeeffmpfdhppaaFamD
namespace Go.Proofs.Ytjeeffmpfdhppaa
open Go.RowKit
theorem Inner.take {w : World} {lo hi : Nat} {e : TypeId} {us vs : List Value} {yss xss : List (List Int)} (h : Inner w lo hi e (us ++ vs) (yss ++ xss)) (hl : us.length = yss.length) : Inner w lo hi e us yss := by
  refine ⟨hl, fun i u xs hu hx => h.2.1 i u xs ?_ ?_, fun i j u u' g hij hu hu' a b => h.2.2 i j u u' g hij ?_ ?_ a b⟩
  · rw [List.getElem?_append_left (List.getElem?_eq_some_iff.1 hu).1]; exact hu
  · rw [List.getElem?_append_left (List.getElem?_eq_some_iff.1 hx).1]; exact hx
  · rw [List.getElem?_append_left (List.getElem?_eq_some_iff.1 hu).1]; exact hu
  · rw [List.getElem?_append_left (List.getElem?_eq_some_iff.1 hu').1]; exact hu'
theorem FamA.dropT {w0 w : World} {bx lo : Nat} {T : TypeId} {n : Int} {fv : Value} {ev vs tv : List Value} {es xss ts : List (List Int)} (h : FamA w0 w bx T n lo fv ev vs tv es xss ts) : FamA w0 w bx T n lo fv ev vs [] es xss [] := by
  refine ⟨h.blk, h.own, ?_, h.len, h.ext, h.bx0, h.lo0, h.low⟩
  have h1 := h.inn
  rw [← List.append_assoc, ← List.append_assoc] at h1
  rw [List.append_nil, List.append_nil]
  exact h1.take (by rw [List.length_append, List.length_append, h.len.1, h.len.2])
theorem inner_nil2 (w : World) (lo hi : Nat) : Inner w lo hi 3 ([.slice none 0 0, .slice none 0 0] ++ ([] ++ [])) ([[], []] ++ ([] ++ [])) := by
  have h0 := (Inner.nil w lo hi 3).snoc (lo' := max lo hi) (hi' := hi) (u := .slice none 0 0) (xs := []) (ownI_nil w _ _) (fun g hg => by cases hg) (Nat.le_max_left _ _) (Nat.le_max_right _ _) (Nat.le_refl _)
  exact h0.snoc (lo' := max lo hi) (hi' := hi) (u := .slice none 0 0) (xs := []) (ownI_nil w _ _) (fun g hg => by cases hg) (Nat.le_max_left _ _) (Nat.le_max_right _ _) (Nat.le_refl _)
theorem seqI_ok {k j : Nat} (h : k + j ≤ 100) : ((seqI ((k : Int) + 1) j).Pairwise fun a b => absI a < absI b) ∧ ∀ x ∈ seqI ((k : Int) + 1) j, -1000 ≤ x ∧ x ≤ 1000 := by
  constructor
  · rw [List.pairwise_iff_getElem]
    intro i j' hi hj hij
    rw [getElem_seqI, getElem_seqI]
    unfold absI
    split <;> split <;> omega
  · intro x hx
    have := mem_seqI.1 hx
    omega
theorem chPair_ok {V X : Nat} (h1 : V < X) (h2 : X ≤ 100) : ([-((V : Int) + 1), -((X : Int) + 1)].Pairwise fun a b => absI a < absI b) ∧ ∀ x ∈ [-((V : Int) + 1), -((X : Int) + 1)], -1000 ≤ x ∧ x ≤ 1000 := by
  constructor
  · refine List.Pairwise.cons (fun b hb => ?_) (List.pairwise_singleton _ _)
    rw [List.mem_singleton] at hb
    subst hb
    unfold absI
    split <;> split <;> omega
  · intro x hx
    rcases List.mem_cons.1 hx with rfl | hx
    · omega
    · rw [List.mem_singleton] at hx; subst hx; omega
set_option maxRecDepth 100000 in
set_option maxHeartbeats 12800000 in
theorem i_ChoiceCnf (xss : List (List Int)) (v : Value) (w : World) (h : RdSS w v xss) (b : Bd_IntSS xss) (_ : I64_IntSS xss) : Calls Try.prog 49 #[v] w (RetN w (choV xss) (choiceB xss)) := by
  obtain ⟨A, c, rfl, h1, h2, ha⟩ := h.form
  have X0 : Hid (Ext w (w.alloc (.cells #[.int .i64 0, .slice none 0 0] 31))) := hd (Ext.new _ _)
  have HB := hd (blk_new (w := w) (.cells #[.int .i64 0, .slice none 0 0] 31) rfl)
  have HCH := hd (fun w' h' => i_IsChoice xss (.slice A xss.length c) w' h' (by have := b.1; omega) b.hid)
  have HR := hd h
  clear h
  obtain ⟨q, hq⟩ : ∃ q, choiceB xss = q := ⟨_, rfl⟩
  have HQ := hd hq
  have HV : Hid (choV xss = if q then chV xss else ⟨0, []⟩) := hd (by unfold choV; rw [hq])
  cases q
  · clear hq
    have X1 : Hid (∀ i j u v, Ext w (((w.alloc (.cells #[.int .i64 0, .slice none 0 0] 31)).setCell ⟨w.heap.size, i, none⟩ u).setCell ⟨w.heap.size, j, none⟩ v)) := hd fun i j u v => ext_set (ext_set X0.out (Nat.le_refl _) u) (Nat.le_refl _) v
    have HC := hd (blk2_set (x' := .int .i64 0) (y' := .slice none 0 0) HB.out)
    go_enter Try.func49, Try.ntmps49
    go_wp2_with fail
    refine (rt (HCH.out _ (HR.out.ext X0.out)) HQ).mono ?_
    rintro e w1 ⟨rfl, rfl⟩
    go_wp2
    rw [HQ.out]
    exact bodyPost_ret (v := .tuple #[.agg #[.int .i64 0, .slice none 0 0], .bool false]) (by simp [results, Try.results49, go_sem]) rfl (RetN.zero (hd HV.out) (by first | exact X1.out _ _ _ _ | exact X0.out) rfl)
  · rw [if_pos rfl] at HV
    obtain ⟨hf12, hcnt, hc60, hgood⟩ := ch_facts hq
    have HBD := hd (chV_bd hq)
    have HGD := hd hgood
    obtain ⟨hx1, hx4, hx3, hxb⟩ := choice_inv hq
    have HFL := hd (fun i => take_flat_len hq i)
    have HX3 := hd hx3
    have HSN := hd (fun i (hi : i < xss.length) => flat_snoc hi)
    have HPN := hd (fun i (hi : i < xss.length) => pigs_snoc hi)
    have HCN := hd (fun i (hi : i < xss.length) => seq_snoc' hi)
    have HCT := hd hcnt
    clear hq b hxb hx3 hcnt hgood
    go_enter Try.func49, Try.ntmps49
    go_wp2_with fail
    refine (rt (HCH.out _ (HR.out.ext X0.out)) HQ).mono ?_
    rintro e w1 ⟨rfl, rfl⟩
    obtain ⟨w0, hw0⟩ : ∃ w0 : World, w0 = w.alloc (.cells #[.int .i64 0, .slice none 0 0] 31) := ⟨_, rfl⟩
    have hs0 : Hid (w0.heap.size = w.heap.size + 1) := hd (by rw [hw0]; simp)
    have HX0 : Hid (Ext w w0) := hd (by rw [hw0]; exact Ext.new _ _)
    have HR0 : Hid (w0.heap[w.heap.size]? = some (.cells #[.int .i64 0, .slice none 0 0] 31)) := hd (by rw [hw0]; exact HB.out)
    have HS0 := hd (HR.out.ext HX0.out)
    rw [← hw0]
    clear hw0 HCH HB X0 HR
    have F0 : FamA w0 (w0.alloc (.cells #[.int .i64 0, .slice none 0 0] 109)) w0.heap.size 109 0 w0.heap.size (.slice none 0 0) [.slice none 0 0, .slice none 0 0] [] [] [[], []] [] [] :=
      ⟨blk_new _ rfl, own_nil _ _ _ _, inner_nil2 _ _ _, ⟨rfl, rfl⟩, Ext.new _ _, Nat.le_refl _, Nat.le_refl _, by simp⟩
    have F2 := hd F0
    clear F0
    go_wp2
    generalize hbx : w0.heap.size = bx at *
    have HBX := hd hbx
    clear hbx
    go_loopw [22, 5, 6, 7, 8, 9, 11] (fun i pv hv _ _ _ _ wr => ∃ (I : Nat) (fv : Value) (vs : List Value), I ≤ xss.length ∧ i = .int .i64 I ∧ FamA w0 wr bx 109 ((xss.take I).flatten.length : Int) bx fv [pv, hv] vs [] [pigs 0 (xss.take I), (xss.take I).flatten] (seqII 1 (lens (xss.take I))) []) (fun i _ _ _ _ _ _ _ => xss.length - (intOf i).toNat)
    case atStart => exact ⟨0, _, [], by omega, rfl, F2.out⟩
    case round =>
      clear F2
      obtain ⟨I, fv, vs, hI, rfl, hF⟩ := hrel
      have HF := hd hF
      clear hF
      have hfl := HFL.out I
      by_cases hlt : I < xss.length
      · obtain ⟨a, u, rfl, hc0, hu0⟩ := RdSS.at_ HS0 hlt
        have h3 := HX3.out _ (List.getElem_mem hlt)
        have HS1 := hd (HSN.out I hlt)
        have HS2 := hd (HPN.out I hlt)
        have HS3 := hd (HCN.out I hlt)
        have hfl2 := HFL.out (I + 1)
        rw [HS1.out, List.length_append] at hfl2
        have hpl := pigs_len (xss.take I) 0
        have HCL : (seqII 1 (lens (xss.take I))).length ≤ 1048576 := by rw [length_seqII, length_lens, List.length_take]; omega
        generalize xss[I] = xs at *
        obtain ⟨A2, c2, rfl, h21, h22, hu⟩ := hu0.form
        clear hu0
        generalize pigs 0 (xss.take I) = P at *
        generalize seqII 1 (lens (xss.take I)) = CS at *
        generalize hFF : (xss.take I).flatten = FL at *
        clear hFF
        have X1 := HF.out.ext
        have hc1 := X1.cell hc0
        have F3 := hd (HF.out.newT (Ext.refl _) (ownI_nil _ _ _))
        clear hc0
        obtain ⟨wo, rfl⟩ : ∃ wo : World, wo = wr := ⟨_, rfl⟩
        go_wp2
        clear hc1
        go_loopw [29, 9, 5, 6, 11] (fun i cv pv hv _ wr => ∃ (K : Nat) (n : Int), K ≤ xs.length ∧ i = .int .i64 K ∧ n = (FL.length : Int) + K ∧ FamA w0 wr bx 109 n bx fv [pv, hv] vs [cv] [P ++ List.replicate K (I : Int), FL ++ xs.take K] CS [seqI ((FL.length : Int) + 1) K]) (fun i _ _ _ _ _ => xs.length - (intOf i).toNat)
        case atStart => exact ⟨0, (FL.length : Int), by omega, rfl, by simp, by simpa [seqI] using F3.out⟩
        case round =>
          clear F3 HF X1
          obtain ⟨K, n, hK, rfl, hn, hF⟩ := hrel
          have HF := hd hF
          clear hF
          by_cases hltK : K < xs.length
          · obtain ⟨a2, rfl, hx0⟩ := RdI.at_ hu hltK
            have hx1 := HF.out.ext.cell hx0
            obtain ⟨c0, c1⟩ := blk2 HF.out.blk
            obtain ⟨f0, f1⟩ := blk2f HF.out.blk
            have hbl := blk_lt HF.out.blk
            have hwr : IntKind.i64.wrap (n + 1) = n + 1 := IntWalk.i64_in _ (by omega)
            have FN := HF.out.num (by decide) (by decide) (n + 1)
            obtain ⟨d0, d1⟩ := blk2 FN.blk
            have hszN := FN.low
            have HCR := FN.rowT
            have hlc : (seqI ((FL.length : Int) + 1) K).length ≤ 1073741824 := by rw [length_seqI]; omega
            have hlp : (P ++ List.replicate K (I : Int)).length ≤ 1073741824 := by rw [List.length_append, List.length_replicate]; omega
            have hlh : (FL ++ xs.take K).length ≤ 1073741824 := by rw [List.length_append, List.length_take]; omega
            have HE1 : Hid (seqI ((FL.length : Int) + 1) (K + 1) = seqI ((FL.length : Int) + 1) K ++ [n + 1]) := hd (by rw [seqI_snoc, show (FL.length : Int) + 1 + K = n + 1 from by omega])
            have HE2 : Hid (P ++ List.replicate (K + 1) (I : Int) = P ++ List.replicate K (I : Int) ++ [(I : Int)]) := hd (by rw [List.replicate_succ', List.append_assoc])
            have HE3 : Hid (FL ++ xs.take (K + 1) = FL ++ xs.take K ++ [xs[K]]) := hd (by rw [List.take_succ_eq_append_getElem hltK, List.append_assoc])
            have hn1 : n + 1 = (FL.length : Int) + ((K + 1 : Nat) : Int) := by omega
            have HN1 := hd hn1
            have HF' := hd FN
            clear hn hn1 FN
            generalize xs[K] = x at *
            generalize seqI ((FL.length : Int) + 1) K = c0l at *
            generalize P ++ List.replicate K (I : Int) = P0 at *
            generalize FL ++ xs.take K = H0 at *
            go_wp2_with (first
              | (at_builtin; refine appIn (nb := wr.heap.size) _ HCR rfl _ _ rfl _ (by rfl) (by rfl) (by simp) hlc hszN ?_; intro v1 w1 ho1 hg1 hv1; have G1 := FamA.appT HF'.out (by decide) ho1 hg1 hv1)
              | (at_builtin; refine appI _ (FamA.row G1 (j := 0) rfl rfl) rfl _ _ rfl _ (by rfl) (by rfl) hlp G1.low ?_; intro v2 w2 ho2 hg2 hv2; have G2 := FamA.appE G1 (j := 0) (by decide) rfl rfl ho2 hg2 hv2)
              | (at_builtin; refine appI _ (FamA.row G2 (j := 1) rfl rfl) rfl _ _ rfl _ (by rfl) (by rfl) hlh G2.low ?_; intro v3 w3 ho3 hg3 hv3; have G3 := FamA.appE G2 (j := 1) (by decide) rfl rfl ho3 hg3 hv3))
            go_roundw
            case rel => exact ⟨K + 1, n + 1, by omega, by go_num, HN1.out, by rw [HE1.out, HE2.out, HE3.out]; exact G3⟩
            case measure => simp [intOf]; omega
          · obtain rfl : K = xs.length := by omega
            rw [List.take_length] at HF
            have HL1 : Hid (n = ((FL ++ xs).length : Int)) := hd (by rw [List.length_append]; omega)
            have HOK := hd (seqI_ok (k := FL.length) (j := xs.length) (by omega))
            clear hn
            have hcl : (seqI ((FL.length : Int) + 1) xs.length).length ≤ 1048576 := by rw [length_seqI]; omega
            generalize seqI ((FL.length : Int) + 1) xs.length = C at *
            obtain ⟨Ac, cc, rfl, -⟩ := OwnI.form (FamA.rowT HF.out)
            go_wp2_with fail
            refine (i_addA w0 _ bx n bx fv _ vs _ CS C C _ (FamA.dropT HF.out) (FamA.rowT HF.out).rd hcl HCL (hd (List.Perm.refl _)) (hd HOK.out.1) (hd HOK.out.2)).mono ?_
            rintro e w9 ⟨rfl, fv9, vs9, HP⟩
            go_wp2
            go_roundw
            case rel => exact ⟨I + 1, _, _, by omega, by go_num, by rw [HS1.out, HS2.out, HS3.out, ← HL1.out]; exact HP⟩
            case measure => simp [intOf]; omega
      · obtain rfl : I = xss.length := by omega
        rw [List.take_length] at HF
        have hCL : (seqII 1 (lens xss)).length ≤ 4 := by rw [length_seqII, length_lens]; omega
        have hPL := pigs_len xss 0
        have HPS := hd fun V => chP_succ (pigs 0 xss) xss.flatten V
        have HQS := hd (chQ_succ (pigs 0 xss) xss.flatten xss.flatten.length)
        have HPLE := hd fun V t (h : V + 1 + t ≤ xss.flatten.length) => chP_le (P := pigs 0 xss) HCT.out h
        have HQLE := hd (chQ_le (P := pigs 0 xss) (H := xss.flatten) rfl HCT.out)
        have HCC : Hid (∀ V X, chC (pigs 0 xss) xss.flatten V X = if (pigs 0 xss).getD V 0 ≠ (pigs 0 xss).getD X 0 ∧ xss.flatten.getD V 0 = xss.flatten.getD X 0 then [[-((V : Int) + 1), -((X : Int) + 1)]] else []) := hd fun _ _ => rfl
        have HVV : Hid (chV xss = ⟨(xss.flatten.length : Int), seqII 1 (lens xss) ++ chQ (pigs 0 xss) xss.flatten xss.flatten.length xss.flatten.length⟩) := hd rfl
        clear HCT hfl hI hlt
        generalize pigs 0 xss = P at *
        generalize xss.flatten = H at *
        generalize seqII 1 (lens xss) = C0 at *
        have hP12 : P.length ≤ 12 := by omega
        obtain ⟨N, hN⟩ : ∃ N, H.length = N := ⟨_, rfl⟩
        rw [hN] at HF hPL hf12 HPLE HQLE HVV HQS
        have HNL := hd hN
        have HPL2 := hd hPL
        clear hN hPL
        have F5 := HF.out
        rw [show C0 = C0 ++ chQ P H N 0 from (List.append_nil _).symm] at F5
        have F6 := hd F5
        obtain ⟨c0, c1⟩ := blk2 HF.out.blk
        have hbl := blk_lt HF.out.blk
        clear F5 HF
        go_wp2
        clear c0 c1 hbl
        go_loopw [64, 12, 13] (fun i _ _ wr => ∃ (V : Nat) (fv : Value) (vs : List Value), V ≤ N ∧ i = .int .i64 V ∧ FamA w0 wr bx 109 N bx fv _ vs [] [P, H] (C0 ++ chQ P H N V) []) (fun i _ _ _ => N - (intOf i).toNat)
        case atStart => exact ⟨0, _, _, by omega, rfl, F6.out⟩
        case round =>
          clear F6
          obtain ⟨V, fv, vs, hV, rfl, hF⟩ := hrel
          have HF := hd hF
          obtain ⟨c0, c1⟩ := blk2 hF.blk
          have hbl := blk_lt hF.blk
          clear hF
          by_cases hltV : V < N
          · have HQV := hd (HQS.out V)
            have F5 := HF.out
            rw [show C0 ++ chQ P H N V = C0 ++ chQ P H N V ++ chP P H V (V + 1 - (V + 1)) from by rw [Nat.sub_self]; exact (List.append_nil _).symm] at F5
            have F7 := hd F5
            clear F5 HF
            go_wp2
            clear c0 c1 hbl
            go_loopw [13] (fun i wr => ∃ (X : Nat) (fv : Value) (vs : List Value), V + 1 ≤ X ∧ X ≤ N ∧ i = .int .i64 X ∧ FamA w0 wr bx 109 N bx fv _ vs [] [P, H] (C0 ++ chQ P H N V ++ chP P H V (X - (V + 1))) []) (fun i _ => N - (intOf i).toNat)
            case atStart => exact ⟨V + 1, _, _, by omega, by omega, by go_num, F7.out⟩
            case round =>
              clear F7
              obtain ⟨X, fv, vs, hX1, hX2, rfl, hF⟩ := hrel
              have HF := hd hF
              obtain ⟨c0, c1⟩ := blk2 hF.blk
              have hbl := blk_lt hF.blk
              by_cases hltX : X < N
              · have HPP := hd (HPS.out V (X - (V + 1)))
                rw [show X - (V + 1) + 1 = X + 1 - (V + 1) from by omega, show V + 1 + (X - (V + 1)) = X from by omega] at HPP
                obtain ⟨Ap, cp, rfl, RP⟩ := OwnI.form (FamA.row hF (j := 0) rfl rfl)
                obtain ⟨Ah, ch, rfl, RH⟩ := OwnI.form (FamA.row hF (j := 1) rfl rfl)
                have hVP : V < P.length := by rw [HPL2.out]; exact hltV
                have hXP : X < P.length := by rw [HPL2.out]; exact hltX
                have hVH : V < H.length := by rw [HNL.out]; exact hltV
                have hXH : X < H.length := by rw [HNL.out]; exact hltX
                obtain ⟨ap, rfl, p1⟩ := RdI.at_ (hd RP.out.rd) hVP
                obtain ⟨ap', hap, p2⟩ := RdI.at_ (hd RP.out.rd) hXP
                obtain rfl := Option.some.inj hap
                obtain ⟨ah, rfl, g1⟩ := RdI.at_ (hd RH.out.rd) hVH
                obtain ⟨ah', hah, g2⟩ := RdI.at_ (hd RH.out.rd) hXH
                obtain rfl := Option.some.inj hah
                have HC := hd (HCC.out V X)
                rw [show P.getD V 0 = P[V] by simp [List.getD, hVP], show P.getD X 0 = P[X] by simp [List.getD, hXP], show H.getD V 0 = H[V] by simp [List.getD, hVH], show H.getD X 0 = H[X] by simp [List.getD, hXH]] at HC
                clear hap hah hF
                generalize P[V] = x1 at *
                generalize P[X] = x2 at *
                generalize H[V] = y1 at *
                generalize H[X] = y2 at *
                have hlen : (C0 ++ chQ P H N V ++ chP P H V (X - (V + 1))).length ≤ 1048576 := by
                  have h1 := HQLE.out V hV
                  have h2 := HPLE.out V (X - (V + 1)) (by omega)
                  rw [List.length_append, List.length_append]
                  have : V * 4 ≤ 12 * 4 := Nat.mul_le_mul_right _ (by omega)
                  omega
                generalize hC9 : C0 ++ chQ P H N V = C9 at *
                generalize hC8 : C9 ++ chP P H V (X - (V + 1)) = C8 at *
                have HC8 := hd hC8
                have HLEN := hd hlen
                have HOK := hd (chPair_ok (V := V) (X := X) (by omega) (by omega))
                clear hC8 hC9 hlen hCL h1 h2 hc60 hx1 hx4 hP12
                have iV0 : (0 : Int) ≤ (V : Int) := by omega
                have iX0 : (0 : Int) ≤ (X : Int) := by omega
                have iV1 : (V : Int) < (P.length : Int) := by omega
                have iX1 : (X : Int) < (P.length : Int) := by omega
                have iV2 : (V : Int) < (H.length : Int) := by omega
                have iX2 : (X : Int) < (H.length : Int) := by omega
                by_cases e1 : x1 = x2
                · have HC' : Hid (chC P H V X = []) := hd (by rw [HC.out, if_neg (by intro h; exact h.1 e1)])
                  have b1 : (x1 != x2) = false := by simp [e1]
                  clear e1 HC
                  go_wp2_with fail
                  go_quiet (fail)
                  go_wp2
                  go_roundw
                  case rel => exact ⟨X + 1, _, _, by omega, by omega, by go_num, by rw [HPP.out, HC'.out, List.append_nil, HC8.out]; exact HF.out.on (by first | exact ext_drewN _ _ | exact (Ext.refl _).drew)⟩
                  case measure => simp [intOf]; omega
                · have b1 : (x1 != x2) = true := by simp [e1]
                  by_cases e2 : y1 = y2
                  · have HC' : Hid (chC P H V X = [[-((V : Int) + 1), -((X : Int) + 1)]]) := hd (by rw [HC.out, if_pos ⟨e1, e2⟩])
                    have b2 : (y1 == y2) = true := by simp [e2]
                    clear e1 e2 HC
                    go_wp2_with fail
                    go_quiet (fail)
                    go_wp2_with fail
                    refine (i_addA w0 _ bx N bx fv _ vs _ C8 [-(V : Int) - 1, -(X : Int) - 1] [-((V : Int) + 1), -((X : Int) + 1)] _ (FamA.on HF.out ((ext_drewN _ _).alloc _)) (rdI_pair (heap_alloc_new _ _)) (by simp) HLEN.out (hd (by rw [show -(V : Int) - 1 = -((V : Int) + 1) from by omega, show -(X : Int) - 1 = -((X : Int) + 1) from by omega])) (hd HOK.out.1) (hd HOK.out.2)).mono ?_
                    rintro e w9 ⟨rfl, fv9, vs9, HP⟩
                    go_wp2
                    go_roundw
                    case rel => exact ⟨X + 1, _, _, by omega, by omega, by go_num, by rw [HPP.out, HC'.out, ← List.append_assoc, HC8.out]; exact HP⟩
                    case measure => simp [intOf]; omega
                  · have HC' : Hid (chC P H V X = []) := hd (by rw [HC.out, if_neg (by intro h; exact e2 h.2)])
                    have b2 : (y1 == y2) = false := by simp [e2]
                    clear e1 e2 HC
                    go_wp2_with fail
                    go_quiet (fail)
                    go_wp2
                    go_roundw
                    case rel => exact ⟨X + 1, _, _, by omega, by omega, by go_num, by rw [HPP.out, HC'.out, List.append_nil, HC8.out]; exact HF.out.on (by first | exact ext_drewN _ _ | exact (Ext.refl _).drew)⟩
                    case measure => simp [intOf]; omega
              · obtain rfl : X = N := by omega
                go_wp2
                go_roundw
                case rel => exact ⟨V + 1, _, _, by omega, by go_num, by rw [HQV.out, ← List.append_assoc]; exact HF.out⟩
                case measure => simp [intOf]; omega
          · obtain rfl : V = N := by omega
            have FB := hd HF.out.fam
            obtain ⟨A9, c9, rfl, h91, h92⟩ := FB.out.own.form
            have HVN : Hid ((chV xss).n = (V : Int) ∧ (chV xss).cs = C0 ++ chQ P H V V) := hd (by rw [HVV.out]; exact ⟨rfl, rfl⟩)
            have HGD' : Hid (goodB ⟨(V : Int), C0 ++ chQ P H V V⟩ = true) := hd (by rw [← HVV.out]; exact HGD.out)
            have HBD' : Hid (Bd_Cnf ⟨(V : Int), C0 ++ chQ P H V V⟩) := hd (by rw [← HVV.out]; exact HBD.out)
            have XF := hd FB.out.ext
            have B0 := hd (XF.out.heap HR0.out)
            go_wp2_with fail
            refine (i_cnf w0 _ bx _ _ _ _ FB.out HGD'.out HBD'.out).mono ?_
            rintro e w3 ⟨rfl, hx3⟩
            have B3 := hd (hx3.heap B0.out)
            have OW := hd ((FB.out.own.ext hx3).hi_le hx3.size)
            have X3 := hd (HX0.out.trans (XF.out.trans hx3))
            obtain ⟨k0, k1⟩ := blk2 B3.out
            obtain ⟨k2, k3⟩ := blk2f B3.out
            have k4 := blk_lt B3.out
            generalize hL : (C0 ++ chQ P H V V).length = L at *
            have HC := hd (blk2_set (x' := .int .i64 (V : Int)) (y' := .slice A9 L c9) B3.out)
            have hg3 := grown_set (grown_set (grown_refl w3 (some w.heap.size)) 0 (.int .i64 (V : Int))) 1 (.slice A9 L c9)
            have OW2 := hd (((OW.out.box B3.out (by decide) (by decide) hg3).hi_le hg3.size).lo_le (lo' := w.heap.size) (by have := hs0.out; omega))
            have X4 := hd (ext_set (i := 1) (ext_set (i := 0) X3.out (Nat.le_refl _) (.int .i64 (V : Int))) (Nat.le_refl _) (.slice A9 L c9))
            clear hx3 hg3 hL
            go_wp2
            obtain ⟨p0, p1⟩ := blk2 HC.out
            rw [HQ.out]
            exact bodyPost_ret (v := .tuple #[.agg #[.int .i64 (V : Int), .slice A9 L c9], .bool true]) (by simp [results, Try.results49, go_sem, p0, p1]) rfl ⟨_, rfl, by rw [HV.out]; exact ⟨_, by rw [HVN.out.1], by rw [HVN.out.2]; exact OW2.out⟩, X4.out⟩
end Go.Proofs.Ytjeeffmpfdhppaa
