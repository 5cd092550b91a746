/-
  ChoiceCnf: the reference's side. Conditions: sizes up to 2^20.
-/
import Derived.Test.YtjeeffmpfdhppaaChoiP
import Derived.Test.YtjeeffmpfdhppaaFamA
import Derived.Test.YtjeeffmpfdhppaaFuncL
namespace Go.Proofs.Ytjeeffmpfdhppaa
open Go.RowKit
def choV (xss : List (List Int)) : Cnf := if choiceB xss then chV xss else ⟨0, []⟩
theorem pigs_append : ∀ (a b : List (List Int)) (i : Nat), pigs i (a ++ b) = pigs i a ++ pigs (i + a.length) b
  | [], _, _ => by simp [pigs]
  | x :: r, b, i => by
    rw [List.cons_append, pigs, pigs, pigs_append r b (i + 1), List.append_assoc, List.length_cons, show i + 1 + r.length = i + (r.length + 1) from by omega]
theorem pigs_snoc {xss : List (List Int)} {i : Nat} (h : i < xss.length) : pigs 0 (xss.take (i + 1)) = pigs 0 (xss.take i) ++ List.replicate xss[i].length (i : Int) := by
  rw [List.take_succ_eq_append_getElem h, pigs_append, Nat.zero_add, List.length_take, Nat.min_eq_left (by omega)]
  simp [pigs]
theorem flat_snoc {xss : List (List Int)} {i : Nat} (h : i < xss.length) : (xss.take (i + 1)).flatten = (xss.take i).flatten ++ xss[i] := by
  rw [List.take_succ_eq_append_getElem h, List.flatten_append, List.flatten_cons, List.flatten_nil, List.append_nil]
theorem seq_snoc' {xss : List (List Int)} {i : Nat} (h : i < xss.length) : seqII 1 (lens (xss.take (i + 1))) = seqII 1 (lens (xss.take i)) ++ [seqI (((xss.take i).flatten.length : Int) + 1) xss[i].length] := by
  rw [List.take_succ_eq_append_getElem h]
  have e : lens (xss.take i ++ [xss[i]]) = lens (xss.take i) ++ [xss[i].length] := by unfold lens; rw [List.map_append]; rfl
  rw [e, seqII_snoc, sum_flat, Int.add_comm]
theorem take_flat_len {xss : List (List Int)} (h : choiceB xss = true) (i : Nat) : (xss.take i).flatten.length ≤ 12 := by
  have h1 := (ch_facts h).1
  have : xss.flatten = (xss.take i).flatten ++ (xss.drop i).flatten := by rw [← List.flatten_append, List.take_append_drop]
  rw [this, List.length_append] at h1
  omega
theorem flat_lenC : ∀ (cs : List (List Int)), (∀ c ∈ cs, c.length ≤ 12) → cs.flatten.length ≤ 12 * cs.length
  | [], _ => by simp
  | c :: r, h => by
    have h1 := h c (by simp)
    have h2 := flat_lenC r fun x hx => h x (by simp [hx])
    rw [List.flatten_cons, List.length_append, List.length_cons]
    omega
theorem good_lenC {f : Cnf} (h : goodB f = true) : ∀ c ∈ f.cs, c.length ≤ 12 := fun c hc => by
  have h1 := (clause_inv ((good_inv h).2.2.2 c hc)).2.2.2
  have := (good_inv h).2.1
  omega
theorem chV_bd {xss : List (List Int)} (h : choiceB xss = true) : Bd_Cnf (chV xss) := by
  obtain ⟨-, -, h1, h2⟩ := ch_facts h
  have hc := good_lenC h2
  refine ⟨by omega, fun c hc' => by have := hc c hc'; omega, ?_⟩
  rw [sum_flat]
  have := flat_lenC (chV xss).cs hc
  omega
theorem choV_bd (xss : List (List Int)) : Bd_Cnf (choV xss) := by
  unfold choV
  split
  · rename_i h; exact chV_bd h
  · exact ⟨by simp, by simp, by simp [lens, sumN]⟩
theorem ownI_emp2 {W : World} {base b : Nat} (hb : W.heap.size = b) (h : base ≤ b) : OwnI (W.alloc (.cells #[] 3)) base 3 (.slice (some ⟨b, 0, none⟩) 0 0) [] := ownI_emp' hb h
/-- append of a row to the family's lists. -/
theorem appF {w0 w : World} {bx lo nb : Nat} {T : TypeId} {n : Int} {fv u : Value} {ev vs : List Value} {es xss : List (List Int)} {ys : List Int} {ops : Array Oper} {rest : List Oper} {o : Oper} {a : Act} {Q : Exit → Act → World → Prop}
    (h : FamA w0 w bx T n lo fv ev vs [u] es xss [ys]) (hT : T ≠ 45) (hT2 : T ≠ 3) (hgd : o.guard = none) (s x : Operand)
    (ho : o.op = .call { callee := .builtin .append, args := #[s, x], argTypes := #[22, 22] })
    (hs : a.eval s = fv) (hx : a.eval x = .slice (some ⟨nb, 0, none⟩) 1 1) (hnb : w.heap.size = nb) (hn : xss.length ≤ 1073741824)
    (k : ∀ L A c w1, Hid (L = xss.length + 1) → w1.heap[bx]? = some (.cells #[.int .i64 n, fv] T (0, 0)) → FamA w0 (w1.setCell ⟨bx, 1, none⟩ (.slice A L c)) bx T n lo (.slice A L c) ev (vs ++ [u]) [] es (xss ++ [ys]) [] → wpList Try.prog ops Q rest (a.put o.dst (.slice A L c)) w1) :
    wpList Try.prog ops Q (o :: rest) a (w.alloc (.cells #[u] 45)) := by
  subst hnb
  have hu1 : u.oneCell' = true := by
    obtain ⟨A, c, rfl, -⟩ := h.rowT.rd.form
    rfl
  refine wpList_app1 w hgd s x 22 ho 45 Try.underlying22 info_ints (by decide) rfl lo fv vs.length vs hs h.own u hx hu1 (by rw [h.len.2]; exact hn) h.low fun v' w' k1 k2 _ => ?_
  obtain ⟨hl, A, c, rfl, -⟩ := own_rd k1
  exact k _ A c w' (hd (by rw [h.len.2])) (h.blk1 hT (Ext.new _ _) k2) (h.push hT hT2 (Ext.new _ _) k1 k2)
set_option maxRecDepth 100000 in
set_option maxHeartbeats 12800000 in
theorem s_ChoiceCnf (xss : List (List Int)) (v : Value) (w : World) (h : RdSS w v xss) (b : Bd_IntSS xss) (_ : I64_IntSS xss) : Calls Try.prog 48 #[v] w (RetN w (choV xss) (choiceB xss)) := by
  obtain ⟨A, c, rfl, h1, h2, ha⟩ := h.form
  have X0 : Hid (Ext w (w.alloc (.cells #[.int .i64 0, .slice none 0 0] 31))) := hd (Ext.new _ _)
  have HB := hd (blk_new (w := w) (.cells #[.int .i64 0, .slice none 0 0] 31) rfl)
  have HCH := hd (fun w' h' => s_l28Choice xss (.slice A xss.length c) w' h' (by have := b.1; omega) b.hid)
  have HR := hd h
  clear h
  obtain ⟨q, hq⟩ : ∃ q, choiceB xss = q := ⟨_, rfl⟩
  have HQ := hd hq
  have HV : Hid (choV xss = if q then chV xss else ⟨0, []⟩) := hd (by unfold choV; rw [hq])
  cases q
  · clear hq
    have X1 : Hid (∀ n i j u v, Ext w ((((w.alloc (.cells #[.int .i64 0, .slice none 0 0] 31)).drewN n).setCell ⟨w.heap.size, i, none⟩ u).setCell ⟨w.heap.size, j, none⟩ v)) := hd fun n i j u v => ext_set (ext_set (X0.out.trans (ext_drewN _ n)) (Nat.le_refl _) u) (Nat.le_refl _) v
    have HC := hd (fun n => blk2_set (w := (w.alloc (.cells #[.int .i64 0, .slice none 0 0] 31)).drewN n) (x' := .int .i64 0) (y' := .slice none 0 0) HB.out)
    go_enter Try.func48, Try.ntmps48
    go_wp2_with fail
    refine (rtq (HCH.out _ (HR.out.ext X0.out)) HQ).mono ?_
    rintro e w1 ⟨rfl, n, rfl⟩
    go_wp2
    obtain ⟨p0, p1⟩ := blk2 (HC.out n)
    rw [HQ.out]
    exact bodyPost_ret (v := .tuple #[.agg #[.int .i64 0, .slice none 0 0], .bool false]) (by simp [results, Try.results48, go_sem, p0, p1]) rfl (RetN.zero (hd HV.out) (by first | exact X1.out _ _ _ _ _ | exact X0.out.trans (ext_drewN _ _)) rfl)
  · rw [if_pos rfl] at HV
    obtain ⟨hf12, hcnt, hc60, hgood⟩ := ch_facts hq
    obtain ⟨hx1, hx4, hx3, hxb⟩ := choice_inv hq
    have HFL := hd (fun i => take_flat_len hq i)
    have HX3 := hd hx3
    have HSN := hd (fun i (hi : i < xss.length) => flat_snoc hi)
    have HPN := hd (fun i (hi : i < xss.length) => pigs_snoc hi)
    have HCN := hd (fun i (hi : i < xss.length) => seq_snoc' hi)
    clear hq b hxb
    go_enter Try.func48, Try.ntmps48
    go_wp2_with fail
    refine (rtq (HCH.out _ (HR.out.ext X0.out)) HQ).mono ?_
    rintro e w1 ⟨rfl, n, rfl⟩
    obtain ⟨w0, hw0⟩ : ∃ w0 : World, w0 = (w.alloc (.cells #[.int .i64 0, .slice none 0 0] 31)).drewN n := ⟨_, rfl⟩
    have hs0 : Hid (w0.heap.size = w.heap.size + 1) := hd (by rw [hw0]; simp)
    have HX0 : Hid (Ext w w0) := hd (by rw [hw0]; exact (Ext.new _ _).trans (ext_drewN _ n))
    have HR0 : Hid (w0.heap[w.heap.size]? = some (.cells #[.int .i64 0, .slice none 0 0] 31)) := hd (by rw [hw0]; exact HB.out)
    have HS0 := hd (HR.out.ext HX0.out)
    rw [← hw0]
    clear hw0 HCH HB X0 HR
    have F0 : FamA w0 ((w0.alloc (.cells #[] 45)).alloc (.cells #[.int .i64 0, .slice (some ⟨w0.heap.size, 0, none⟩) 0 0] 31)) (w0.heap.size + 1) 31 0 w0.heap.size (.slice (some ⟨w0.heap.size, 0, none⟩) 0 0) [] [] [] [] [] [] :=
      ⟨blk_new _ (by simp), own_ext (own_lit w0 w0.heap.size 45 1 #[] 0 (Nat.le_refl _) (Nat.zero_le _) rfl) (Ext.new _ _), Inner.nil _ _ _ _, ⟨rfl, rfl⟩, (Ext.new _ _).alloc _, by omega, Nat.le_refl _, by simp; omega⟩
    have F1 := F0.addE (Ext.new _ (.cells #[] 3)) (ownI_emp2 rfl (Nat.le_refl _))
    have F2 := hd (F1.addE (Ext.new _ (.cells #[] 3)) (ownI_emp2 rfl (Nat.le_refl _)))
    simp only [World.size_alloc] at F2
    clear F0 F1
    go_wp2
    generalize hbx : w0.heap.size + 1 = bx at *
    have HBX := hd hbx
    clear hbx
    go_loopw [7, 5, 6, 8, 9] (fun i pv hv _ _ wr => ∃ (I : Nat) (fv : Value) (vs : List Value), I ≤ xss.length ∧ i = .int .i64 I ∧ FamA w0 wr bx 31 ((xss.take I).flatten.length : Int) w0.heap.size fv [pv, hv] vs [] [pigs 0 (xss.take I), (xss.take I).flatten] (seqII 1 (lens (xss.take I))) []) (fun i _ _ _ _ _ => xss.length - (intOf i).toNat)
    case atStart => exact ⟨0, _, [], by omega, rfl, F2.out⟩
    case round =>
      clear F2
      obtain ⟨I, fv, vs, hI, rfl, hF⟩ := hrel
      have HF := hd hF
      clear hF
      have hfl := HFL.out I
      by_cases hlt : I < xss.length
      · obtain ⟨a, u, rfl, hc0, hu0⟩ := RdSS.at_ HS0 hlt
        have h3 := HX3.out _ (List.getElem_mem hlt)
        have HS1 := hd (HSN.out I hlt)
        have HS2 := hd (HPN.out I hlt)
        have HS3 := hd (HCN.out I hlt)
        have hfl2 := HFL.out (I + 1)
        rw [HS1.out, List.length_append] at hfl2
        have hpl := pigs_len (xss.take I) 0
        have HCL : (seqII 1 (lens (xss.take I))).length ≤ 1073741824 := by rw [length_seqII, length_lens, List.length_take]; omega
        generalize xss[I] = xs at *
        obtain ⟨A2, c2, rfl, h21, h22, hu⟩ := hu0.form
        clear hu0
        generalize pigs 0 (xss.take I) = P at *
        generalize seqII 1 (lens (xss.take I)) = CS at *
        generalize hFF : (xss.take I).flatten = FL at *
        clear hFF
        have X1 := HF.out.ext
        have hc1 := X1.cell hc0
        have F3 := hd (HF.out.newT (Ext.new _ (.cells #[] 3)) (ownI_emp2 rfl (Nat.le_refl _)))
        have HCA := hd fun (w' : World) (h : Ext w0 w') => h.cell hc0
        clear hc0 hc1
        obtain ⟨wo, rfl⟩ : ∃ wo : World, wo = wr := ⟨_, rfl⟩
        go_wp2
        go_loopw [9, 8, 5, 6] (fun i cv pv hv wr => ∃ (K : Nat) (n : Int), K ≤ xs.length ∧ i = .int .i64 K ∧ n = (FL.length : Int) + K ∧ FamA w0 wr bx 31 n w0.heap.size fv [pv, hv] vs [cv] [P ++ List.replicate K (I : Int), FL ++ xs.take K] CS [seqI ((FL.length : Int) + 1) K]) (fun i _ _ _ _ => xs.length - (intOf i).toNat)
        case atStart => exact ⟨0, (FL.length : Int), by omega, rfl, by simp, by simpa [seqI] using F3.out⟩
        case round =>
          clear F3 HF X1
          obtain ⟨K, n, hK, rfl, hn, hF⟩ := hrel
          have HF := hd hF
          have hc1 := HCA.out _ hF.ext
          clear hF
          by_cases hltK : K < xs.length
          · obtain ⟨a2, rfl, hx0⟩ := RdI.at_ hu hltK
            have hx1 := HF.out.ext.cell hx0
            obtain ⟨c0, c1⟩ := blk2 HF.out.blk
            obtain ⟨f0, f1⟩ := blk2f HF.out.blk
            have hbl := blk_lt HF.out.blk
            have hwr : IntKind.i64.wrap (n + 1) = n + 1 := IntWalk.i64_in _ (by omega)
            have FN := HF.out.num (by decide) (by decide) (n + 1)
            obtain ⟨d0, d1⟩ := blk2 FN.blk
            have hszN := FN.low
            have HCR := FN.rowT
            have hlc : (seqI ((FL.length : Int) + 1) K).length ≤ 1073741824 := by rw [length_seqI]; omega
            have hlp : (P ++ List.replicate K (I : Int)).length ≤ 1073741824 := by rw [List.length_append, List.length_replicate]; omega
            have hlh : (FL ++ xs.take K).length ≤ 1073741824 := by rw [List.length_append, List.length_take]; omega
            have HE1 : Hid (seqI ((FL.length : Int) + 1) (K + 1) = seqI ((FL.length : Int) + 1) K ++ [n + 1]) := hd (by rw [seqI_snoc, show (FL.length : Int) + 1 + K = n + 1 from by omega])
            have HE2 : Hid (P ++ List.replicate (K + 1) (I : Int) = P ++ List.replicate K (I : Int) ++ [(I : Int)]) := hd (by rw [List.replicate_succ', List.append_assoc])
            have HE3 : Hid (FL ++ xs.take (K + 1) = FL ++ xs.take K ++ [xs[K]]) := hd (by rw [List.take_succ_eq_append_getElem hltK, List.append_assoc])
            have hn1 : n + 1 = (FL.length : Int) + ((K + 1 : Nat) : Int) := by omega
            have HN1 := hd hn1
            have HF' := hd FN
            clear hn hn1 FN
            generalize xs[K] = x at *
            generalize seqI ((FL.length : Int) + 1) K = c0l at *
            generalize P ++ List.replicate K (I : Int) = P0 at *
            generalize FL ++ xs.take K = H0 at *
            go_wp2_with (first
              | (at_builtin; refine appIn (nb := wr.heap.size) _ HCR rfl _ _ rfl _ (by rfl) (by rfl) (by simp) hlc hszN ?_; intro v1 w1 ho1 hg1 hv1; have G1 := FamA.appT HF'.out (by decide) ho1 hg1 hv1; have hc1 := HCA.out _ G1.ext; have hx1 := G1.ext.cell hx0)
              | (at_builtin; refine appI _ (FamA.row G1 (j := 0) rfl rfl) rfl _ _ rfl _ (by rfl) (by rfl) hlp G1.low ?_; intro v2 w2 ho2 hg2 hv2; have G2 := FamA.appE G1 (j := 0) (by decide) rfl rfl ho2 hg2 hv2; have hc2 := HCA.out _ G2.ext; have hx2 := G2.ext.cell hx0)
              | (at_builtin; refine appI _ (FamA.row G2 (j := 1) rfl rfl) rfl _ _ rfl _ (by rfl) (by rfl) hlh G2.low ?_; intro v3 w3 ho3 hg3 hv3; have G3 := FamA.appE G2 (j := 1) (by decide) rfl rfl ho3 hg3 hv3))
            go_roundw
            case rel => exact ⟨K + 1, n + 1, by omega, by go_num, HN1.out, by rw [HE1.out, HE2.out, HE3.out]; exact G3⟩
            case measure => simp [intOf]; omega
          · obtain rfl : K = xs.length := by omega
            obtain ⟨c0, c1⟩ := blk2 HF.out.blk
            have hcl : CS.length ≤ 1073741824 := HCL
            rw [List.take_length] at HF
            have HL1 : Hid (n = ((FL ++ xs).length : Int)) := hd (by rw [List.length_append]; omega)
            clear hn
            generalize seqI ((FL.length : Int) + 1) xs.length = C at *
            obtain ⟨Ac, cc, rfl, -⟩ := OwnI.form (FamA.rowT HF.out)
            go_wp2_with (at_builtin; refine appF HF.out (by decide) (by decide) rfl _ _ rfl (by rfl) (by rfl) rfl hcl ?_; intro L A9 c9 w9 _ hb9 HP; obtain ⟨q0, q1⟩ := blk2 hb9; obtain ⟨q2, q3⟩ := blk2f hb9; have q4 := blk_lt hb9)
            go_roundw
            case rel => exact ⟨I + 1, _, _, by omega, by go_num, by rw [HS1.out, HS2.out, HS3.out, ← HL1.out]; exact HP⟩
            case measure => simp [intOf]; omega
      · obtain rfl : I = xss.length := by omega
        rw [List.take_length] at HF
        have hCL : (seqII 1 (lens xss)).length ≤ 4 := by rw [length_seqII, length_lens]; omega
        have hPL := pigs_len xss 0
        have HPS := hd fun V => chP_succ (pigs 0 xss) xss.flatten V
        have HQS := hd (chQ_succ (pigs 0 xss) xss.flatten xss.flatten.length)
        have HPLE := hd fun V t (h : V + 1 + t ≤ xss.flatten.length) => chP_le (P := pigs 0 xss) hcnt h
        have HQLE := hd (chQ_le (P := pigs 0 xss) (H := xss.flatten) rfl hcnt)
        have HCC : Hid (∀ V X, chC (pigs 0 xss) xss.flatten V X = if (pigs 0 xss).getD V 0 ≠ (pigs 0 xss).getD X 0 ∧ xss.flatten.getD V 0 = xss.flatten.getD X 0 then [[-((V : Int) + 1), -((X : Int) + 1)]] else []) := hd fun _ _ => rfl
        have HVV : Hid (chV xss = ⟨(xss.flatten.length : Int), seqII 1 (lens xss) ++ chQ (pigs 0 xss) xss.flatten xss.flatten.length xss.flatten.length⟩) := hd rfl
        generalize pigs 0 xss = P at *
        generalize xss.flatten = H at *
        generalize seqII 1 (lens xss) = C0 at *
        have hP12 : P.length ≤ 12 := by omega
        obtain ⟨N, hN⟩ : ∃ N, H.length = N := ⟨_, rfl⟩
        rw [hN] at HF hPL hf12 HPLE HQLE HVV HQS
        have HNL := hd hN
        have HPL2 := hd hPL
        clear hN hPL
        have F5 := HF.out
        rw [show C0 = C0 ++ chQ P H N 0 from (List.append_nil _).symm] at F5
        have F6 := hd F5
        obtain ⟨c0, c1⟩ := blk2 HF.out.blk
        clear F5 HF
        go_wp2
        go_loopw [10, 11] (fun i _ wr => ∃ (V : Nat) (fv : Value) (vs : List Value), V ≤ N ∧ i = .int .i64 V ∧ FamA w0 wr bx 31 N w0.heap.size fv _ vs [] [P, H] (C0 ++ chQ P H N V) []) (fun i _ _ => N - (intOf i).toNat)
        case atStart => exact ⟨0, _, _, by omega, rfl, F6.out⟩
        case round =>
          clear F6 c0 c1
          obtain ⟨V, fv, vs, hV, rfl, hF⟩ := hrel
          have HF := hd hF
          obtain ⟨c0, c1⟩ := blk2 hF.blk
          clear hF
          by_cases hltV : V < N
          · have HQV := hd (HQS.out V)
            have F5 := HF.out
            rw [show C0 ++ chQ P H N V = C0 ++ chQ P H N V ++ chP P H V (V + 1 - (V + 1)) from by rw [Nat.sub_self]; exact (List.append_nil _).symm] at F5
            have F7 := hd F5
            clear F5 HF
            go_wp2
            go_loopw [11] (fun i wr => ∃ (X : Nat) (fv : Value) (vs : List Value), V + 1 ≤ X ∧ X ≤ N ∧ i = .int .i64 X ∧ FamA w0 wr bx 31 N w0.heap.size fv _ vs [] [P, H] (C0 ++ chQ P H N V ++ chP P H V (X - (V + 1))) []) (fun i _ => N - (intOf i).toNat)
            case atStart => exact ⟨V + 1, _, _, by omega, by omega, by go_num, F7.out⟩
            case round =>
              clear F7 c0 c1
              obtain ⟨X, fv, vs, hX1, hX2, rfl, hF⟩ := hrel
              have HF := hd hF
              obtain ⟨c0, c1⟩ := blk2 hF.blk
              have hbl := blk_lt hF.blk
              by_cases hltX : X < N
              · have HPP := hd (HPS.out V (X - (V + 1)))
                rw [show X - (V + 1) + 1 = X + 1 - (V + 1) from by omega, show V + 1 + (X - (V + 1)) = X from by omega] at HPP
                obtain ⟨Ap, cp, rfl, RP⟩ := OwnI.form (FamA.row hF (j := 0) rfl rfl)
                obtain ⟨Ah, ch, rfl, RH⟩ := OwnI.form (FamA.row hF (j := 1) rfl rfl)
                have hVP : V < P.length := by rw [HPL2.out]; exact hltV
                have hXP : X < P.length := by rw [HPL2.out]; exact hltX
                have hVH : V < H.length := by rw [HNL.out]; exact hltV
                have hXH : X < H.length := by rw [HNL.out]; exact hltX
                obtain ⟨ap, rfl, p1⟩ := RdI.at_ (hd RP.out.rd) hVP
                obtain ⟨ap', hap, p2⟩ := RdI.at_ (hd RP.out.rd) hXP
                obtain rfl := Option.some.inj hap
                obtain ⟨ah, rfl, g1⟩ := RdI.at_ (hd RH.out.rd) hVH
                obtain ⟨ah', hah, g2⟩ := RdI.at_ (hd RH.out.rd) hXH
                obtain rfl := Option.some.inj hah
                have HC := hd (HCC.out V X)
                rw [show P.getD V 0 = P[V] by simp [List.getD, hVP], show P.getD X 0 = P[X] by simp [List.getD, hXP], show H.getD V 0 = H[V] by simp [List.getD, hVH], show H.getD X 0 = H[X] by simp [List.getD, hXH]] at HC
                clear hap hah hF
                generalize P[V] = x1 at *
                generalize P[X] = x2 at *
                generalize H[V] = y1 at *
                generalize H[X] = y2 at *
                have HVP := hd hVP
                have HXP := hd hXP
                have HVH := hd hVH
                have HXH := hd hXH
                have hlen : (C0 ++ chQ P H N V ++ chP P H V (X - (V + 1))).length ≤ 1073741824 := by
                  have h1 := HQLE.out V hV
                  have h2 := HPLE.out V (X - (V + 1)) (by omega)
                  rw [List.length_append, List.length_append]
                  have : V * 4 ≤ 12 * 4 := Nat.mul_le_mul_right _ (by omega)
                  omega
                generalize hC9 : C0 ++ chQ P H N V = C9 at *
                generalize hC8 : C9 ++ chP P H V (X - (V + 1)) = C8 at *
                have HC8 := hd hC8
                clear hC8 hC9
                have iV0 : (0 : Int) ≤ (V : Int) := by omega
                have iX0 : (0 : Int) ≤ (X : Int) := by omega
                have iV1 : (V : Int) < (P.length : Int) := by omega
                have iX1 : (X : Int) < (P.length : Int) := by omega
                have iV2 : (V : Int) < (H.length : Int) := by omega
                have iX2 : (X : Int) < (H.length : Int) := by omega
                clear hcnt hx3
                by_cases e1 : x1 = x2
                · have HC' : Hid (chC P H V X = []) := hd (by rw [HC.out, if_neg (by intro h; exact h.1 e1)])
                  have b1 : (x1 != x2) = false := by simp [e1]
                  clear e1 HC
                  go_wp2_with fail
                  go_quiet (fail)
                  go_wp2
                  go_roundw
                  case rel => exact ⟨X + 1, _, _, by omega, by omega, by go_num, by rw [HPP.out, HC'.out, List.append_nil, HC8.out]; exact HF.out.on (by first | exact ext_drewN _ _ | exact (Ext.refl _).drew)⟩
                  case measure => simp [intOf]; omega
                · have b1 : (x1 != x2) = true := by simp [e1]
                  by_cases e2 : y1 = y2
                  · have HC' : Hid (chC P H V X = [[-((V : Int) + 1), -((X : Int) + 1)]]) := hd (by rw [HC.out, if_pos ⟨e1, e2⟩])
                    have b2 : (y1 == y2) = true := by simp [e2]
                    clear e1 e2 HC
                    go_wp2_with fail
                    go_quiet (fail)
                    go_wp2_with (at_builtin; refine appF (FamA.newT (FamA.on HF.out (by first | exact ext_drewN _ _ | exact (Ext.refl _).drew)) (Ext.new _ _) (ownI_pair _ (-((V : Int) + 1)) (-((X : Int) + 1)) (Nat.le_refl _))) (by decide) (by decide) rfl _ _ rfl (by rfl) (by rfl) (by simp) hlen ?_; intro L A9 c9 w9 _ hb9 HP; obtain ⟨q0, q1⟩ := blk2 hb9; obtain ⟨q2, q3⟩ := blk2f hb9; have q4 := blk_lt hb9)
                    go_roundw
                    case rel => exact ⟨X + 1, _, _, by omega, by omega, by go_num, by rw [HPP.out, HC'.out, ← List.append_assoc, HC8.out]; exact HP⟩
                    case measure => simp [intOf]; omega
                  · have HC' : Hid (chC P H V X = []) := hd (by rw [HC.out, if_neg (by intro h; exact e2 h.2)])
                    have b2 : (y1 == y2) = false := by simp [e2]
                    clear e1 e2 HC
                    go_wp2_with fail
                    go_quiet (fail)
                    go_wp2
                    go_roundw
                    case rel => exact ⟨X + 1, _, _, by omega, by omega, by go_num, by rw [HPP.out, HC'.out, List.append_nil, HC8.out]; exact HF.out.on (by first | exact ext_drewN _ _ | exact (Ext.refl _).drew)⟩
                    case measure => simp [intOf]; omega
              · obtain rfl : X = N := by omega
                go_wp2
                go_roundw
                case rel => exact ⟨V + 1, _, _, by omega, by go_num, by rw [HQV.out, ← List.append_assoc]; exact HF.out⟩
                case measure => simp [intOf]; omega
          · obtain rfl : V = N := by omega
            have XF := hd HF.out.ext
            have B0 := hd (XF.out.heap HR0.out)
            have FB := hd HF.out.fam
            obtain ⟨A9, c9, rfl, h91, h92⟩ := FB.out.own.form
            obtain ⟨k0, k1⟩ := blk2 B0.out
            obtain ⟨k2, k3⟩ := blk2f B0.out
            have k4 := blk_lt B0.out
            have OW := hd FB.out.own
            have X3 := hd (HX0.out.trans XF.out)
            have HVN : Hid ((chV xss).n = (V : Int) ∧ (chV xss).cs = C0 ++ chQ P H V V) := hd (by rw [HVV.out]; exact ⟨rfl, rfl⟩)
            generalize hL : (C0 ++ chQ P H V V).length = L at *
            have HC := hd (blk2_set (x' := .int .i64 (V : Int)) (y' := .slice A9 L c9) B0.out)
            have hg3 := grown_set (grown_set (grown_refl wr (some w.heap.size)) 0 (.int .i64 (V : Int))) 1 (.slice A9 L c9)
            have OW2 := hd (((OW.out.box B0.out (by decide) (by decide) hg3).hi_le hg3.size).lo_le (lo' := w.heap.size) HX0.out.size)
            have X4 := hd (ext_set (i := 1) (ext_set (i := 0) X3.out (Nat.le_refl _) (.int .i64 (V : Int))) (Nat.le_refl _) (.slice A9 L c9))
            clear hg3 hL
            go_wp2
            obtain ⟨p0, p1⟩ := blk2 HC.out
            rw [HQ.out]
            exact bodyPost_ret (v := .tuple #[.agg #[.int .i64 (V : Int), .slice A9 L c9], .bool true]) (by simp [results, Try.results48, go_sem, p0, p1]) rfl ⟨_, rfl, by rw [HV.out]; exact ⟨_, by rw [HVN.out.1], by rw [HVN.out.2]; exact OW2.out⟩, X4.out⟩
end Go.Proofs.Ytjeeffmpfdhppaa
