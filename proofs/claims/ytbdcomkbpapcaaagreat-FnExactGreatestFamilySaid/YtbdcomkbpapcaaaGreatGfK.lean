import Derived.Test.YtbdcomkbpapcaaaGreatGfJ
/-
  Greatest families, the program's side: what flags must have for an assignment. Conditions: at most six variables.
-/

namespace Go.Proofs.YtbdcomkbpapcaaaGreat
open Go.RowKit Seed
theorem clos_no1 {n q : Nat} {p : Nat → Bool} {a : List Int} {k : Nat} (hk : k < a.length) (h : p (codeA (a.take k ++ a.drop (k + 1))) = false) : closB n q p a = false := by
  unfold closB
  have : ((List.range a.length).all fun k => p (codeA (a.take k ++ a.drop (k + 1)))) = false := by
    rw [← Bool.not_eq_true, List.all_eq_true]
    intro hh
    rw [hh k (List.mem_range.2 hk)] at h; cases h
  rw [this]; rfl
theorem opn_all (n : Nat) (a : List Int) (g : Nat → Bool) : ((List.range n).all fun i => !opnB a ((i : Int) + 1) || g i) = ((seqI 1 n).filter (opnB a)).all (fun v => g (v.toNat - 1)) := by
  rw [Bool.eq_iff_iff, List.all_eq_true, List.all_eq_true]
  constructor
  · intro h v hv
    obtain ⟨h1, h2⟩ := List.mem_filter.1 hv
    obtain ⟨i, hi, rfl⟩ := List.mem_map.1 h1
    have h3 := h i hi
    rw [show (i : Int) + 1 = 1 + (i : Int) by omega, h2] at h3
    rw [show (1 + (i : Int)).toNat - 1 = i by omega]
    simpa using h3
  · intro h i hi
    cases ho : opnB a ((i : Int) + 1)
    · rfl
    · have h3 := h ((i : Int) + 1) (List.mem_filter.2 ⟨List.mem_map.2 ⟨i, hi, by omega⟩, ho⟩)
      rw [show ((i : Int) + 1).toNat - 1 = i by omega] at h3
      rw [h3]; rfl
theorem clos_all1 {n q : Nat} {p : Nat → Bool} {a : List Int} (h : ∀ k, k < a.length → p (codeA (a.take k ++ a.drop (k + 1))) = true) : closB n q p a = (decide (q < a.length) || ((seqI 1 n).filter (opnB a)).all (fun v => p (codeA a + 3 ^ (v.toNat - 1)) || p (codeA a + 2 * 3 ^ (v.toNat - 1)))) := by
  unfold closB
  have : ((List.range a.length).all fun k => p (codeA (a.take k ++ a.drop (k + 1)))) = true := by
    rw [List.all_eq_true]
    exact fun k hk => h k (List.mem_range.1 hk)
  rw [this, Bool.true_and, opn_all n a (fun i => p (codeA a + 3 ^ i) || p (codeA a + 2 * 3 ^ i))]
theorem tell_at {bs : List Bool} {c : Nat} (h : c < bs.length) : tellB bs c = bs[c] := by unfold tellB; simp [h]
theorem opn_code {n : Nat} {a : List Int} {m : Nat} (h : Ris (n : Int) a) (ho : opnB a ((m : Int) + 1) = true) (hm : m < n) : codeA a + 2 * 3 ^ m < 3 ^ n := by
  have hn := opn_not ho (by omega)
  have h1 := code_lt n _ (ris_put h hn (by rw [absI_pos (by omega)]; omega))
  rw [code_put, dgt_pos] at h1
  exact h1
theorem all_false {vs : List Int} {g : Int → Bool} {k : Nat} (hk : k < vs.length) (h : g vs[k] = false) : vs.all g = false := by
  rw [← Bool.not_eq_true, List.all_eq_true]
  intro hh
  rw [hh _ (List.getElem_mem hk)] at h; cases h
theorem all_true {vs : List Int} {g : Int → Bool} (h : ∀ j (hj : j < vs.length), g vs[j] = true) : vs.all g = true := by
  rw [List.all_eq_true]
  intro x hx
  obtain ⟨j, hj, rfl⟩ := List.mem_iff_getElem.1 hx
  exact h j hj
set_option maxRecDepth 100000 in
set_option maxHeartbeats 3200000 in
theorem i_closedAt (n : Nat) (cs : List (List Int)) (q : Nat) (bs : List Bool) (a : List Int) (v iv av : Value) (w : World) (hn : n ≤ 6) (_hq : q ≤ 6) (hv : Rd_Cnf w v ⟨(n : Int), cs⟩) (hB : RdB w iv bs) (hbl : bs.length = 3 ^ n) (ha : RdI w av a) (har : Ris (n : Int) a) :
    Calls Tryz.prog 36 #[v, .int .i64 (q : Int), iv, av] w (RetX w (.bool (closB n q (tellB bs) a))) := by
  obtain ⟨A, c, rfl⟩ := hv.form
  obtain ⟨B, d, rfl, hb1, hb2, hBB⟩ := hB.form
  obtain ⟨A0, c0, rfl, ha1, ha2, hAA⟩ := ha.form
  have hal : a.length ≤ 6 := by have := har.len; omega
  have hp3 := pow36 hn
  have HBL : Hid (bs.length = 3 ^ n) := hd hbl
  have hbn : bs.length ≤ 729 := by omega
  have HCUT : Hid (∀ k, k < a.length → codeA (a.take k ++ a.drop (k + 1)) < bs.length) := hd fun k _ => by rw [hbl]; exact code_lt n _ (ris_cut har k)
  have HCR : Hid (∀ k, k < a.length → Ris (n : Int) (a.take k ++ a.drop (k + 1))) := hd fun k _ => ris_cut har k
  have HNO : Hid (∀ k, k < a.length → tellB bs (codeA (a.take k ++ a.drop (k + 1))) = false → closB n q (tellB bs) a = false) := hd fun k hk h => clos_no1 hk h
  have HYES : Hid ((∀ k, k < a.length → tellB bs (codeA (a.take k ++ a.drop (k + 1))) = true) → closB n q (tellB bs) a = (decide (q < a.length) || ((seqI 1 n).filter (opnB a)).all (fun v => tellB bs (codeA a + 3 ^ (v.toNat - 1)) || tellB bs (codeA a + 2 * 3 ^ (v.toNat - 1))))) := hd fun h => clos_all1 h
  have HBX : Hid (∀ w' : World, Ext (w.alloc (.cells #[.int .i64 (n : Int), .slice A cs.length c] 28)) w' → w'.cell? ⟨w.heap.size, 0, none⟩ = some (.int .i64 (n : Int)) ∧ w'.cell? ⟨w.heap.size, 1, none⟩ = some (.slice A cs.length c)) := hd fun w' hx => blk2 (hx.heap (heap_n1 w _))
  have HN := hd (Ext.new w (.cells #[.int .i64 (n : Int), .slice A cs.length c] 28))
  have HAR := hd har
  simp only at *
  obtain ⟨r, hr⟩ : ∃ r, closB n q (tellB bs) a = r := ⟨_, rfl⟩
  rw [hr] at HNO HYES ⊢
  clear hv hB ha hbl hr har
  go_enter Tryz.func36, Tryz.ntmps36
  go_wp2
  go_loopw [14] (fun iv wr => ∃ k : Nat, k ≤ a.length ∧ iv = .int .i64 (k : Int) ∧ Hid (∀ j, j < k → tellB bs (codeA (a.take j ++ a.drop (j + 1))) = true) ∧ Ext (w.alloc (.cells #[.int .i64 (n : Int), .slice A cs.length c] 28)) wr) (fun iv _ => a.length - (intOf iv).toNat)
  case atStart => exact ⟨0, by omega, rfl, hd (fun j h => by omega), Ext.refl _⟩
  case round =>
    obtain ⟨k, hk, rfl, HJ, hx⟩ := hrel
    have HX := hd hx
    clear hx
    have HA1 := hd (hAA.out.ext (HN.out.trans HX.out))
    by_cases hlt : k < a.length
    · have HWO := hd (i_without a _ k wr HA1.out (by omega) hlt)
      have hcl := HCUT.out k hlt
      have HRR := hd (HCR.out k hlt)
      have HNO1 := hd (HNO.out k hlt)
      have HJ2 : Hid (tellB bs (codeA (a.take k ++ a.drop (k + 1))) = true → ∀ j, j < k + 1 → tellB bs (codeA (a.take j ++ a.drop (j + 1))) = true) := hd fun h j hj => by
        rcases Nat.lt_or_eq_of_le (Nat.lt_succ_iff.1 hj) with h' | rfl
        · exact HJ.out j h'
        · exact h
      have HIC := hd (fun (w' : World) (u : Value) hu => i_codeOf n (a.take k ++ a.drop (k + 1)) u w' hu HRR.out hn)
      have HTA := hd (tell_at hcl)
      rw [HTA.out] at HNO1 HJ2
      generalize a.take k ++ a.drop (k + 1) = y at *
      generalize codeA y = C at *
      obtain ⟨g1, e1, hcb⟩ := RdB.at_ (hd (hBB.out.ext (HN.out.trans HX.out)) : Hid (RdB wr (.slice B bs.length d) bs)) hcl
      subst e1
      have HCB := hd hcb
      have hC1 : (0 : Int) ≤ (C : Int) := by omega
      have hC2 : (C : Int) < (bs.length : Int) := by omega
      clear hcb
      obtain ⟨t, ht⟩ : ∃ t, bs[C] = t := ⟨_, rfl⟩
      rw [ht] at HNO1 HJ2 HCB
      clear ht HTA
      go_wp2_with fail
      refine HWO.out.mono ?_
      rintro e w1 ⟨u1, rfl, hu1, hx1⟩
      have HU1 := hd hu1.rd
      have HX1 := hd hx1
      obtain ⟨A3, c3, rfl, -⟩ := hu1.rd.form
      clear hu1 hx1
      have hcb1 := HX1.out.cell HCB.out
      go_wp2_with fail
      refine (HIC.out w1 _ HU1.out).mono ?_
      rintro e w2 ⟨rfl, rfl⟩
      cases t
      · have HK := hd (HNO1.out rfl)
        go_wp2
        go_ret
        exact RetX.mk (by rw [HK.out]; rfl) (HN.out.trans (HX.out.trans HX1.out))
      · have HJ3 := hd (HJ2.out rfl)
        go_wp2
        go_roundw
        case rel => exact ⟨k + 1, by omega, by go_num, HJ3, HX.out.trans HX1.out⟩
        case measure => simp [intOf]; omega
    · have HK := hd (HYES.out fun j hj => HJ.out j (by omega))
      clear HJ HNO HYES HCUT HCR
      by_cases hqa : q < a.length
      · have hqa' : (a.length : Int) > (q : Int) := by omega
        rw [decide_eq_true hqa] at HK
        go_wp2
        go_ret
        exact RetX.mk (by rw [HK.out]; rfl) (HN.out.trans HX.out)
      · have hqa' : ¬ (a.length : Int) > (q : Int) := by omega
        rw [decide_eq_false hqa, Bool.false_or] at HK
        obtain ⟨k0, k1⟩ := HBX.out _ HX.out
        have HOV := hd (i_openVars n a _ wr HA1.out hn (by omega))
        have HVS : Hid (∀ x ∈ (seqI 1 n).filter (opnB a), ∃ m : Nat, x = (m : Int) + 1 ∧ m < n ∧ codeA a + 2 * 3 ^ m < bs.length) := hd fun x hx => by
          obtain ⟨h1, h2⟩ := List.mem_filter.1 hx
          obtain ⟨i, hi, rfl⟩ := List.mem_map.1 h1
          have hi := List.mem_range.1 hi
          rw [show 1 + (i : Int) = (i : Int) + 1 by omega] at h2 ⊢
          exact ⟨i, rfl, hi, by rw [HBL.out]; exact opn_code HAR.out h2 hi⟩
        have HIC := hd (fun (w' : World) (u : Value) hu => i_codeOf n a u w' hu HAR.out hn)
        have hvl : ((seqI 1 n).filter (opnB a)).length ≤ 6 := by
          have := List.length_filter_le (opnB a) (seqI 1 n)
          rw [show (seqI 1 n).length = n by simp [seqI]] at this
          omega
        generalize (seqI 1 n).filter (opnB a) = vs at *
        have HCC : Hid (∀ (w' : World) (u : Value), RdI w' u a → Calls Tryz.prog 35 #[u] w' (Ret w' (.int .i64 ((codeA a : Nat) : Int)))) := HIC
        generalize codeA a = C at *
        clear HIC
        go_wp2_with fail
        refine HOV.out.mono ?_
        rintro e w1 ⟨u1, rfl, hu1, hx1⟩
        have HU1 := hd hu1.rd
        have X1 := hd (HX.out.trans hx1)
        obtain ⟨A3, c3, e3, -⟩ := hu1.rd.form
        subst e3
        clear hu1 hx1 HOV
        go_wp2
        go_loopw [35] (fun iv wr => ∃ k : Nat, k ≤ vs.length ∧ iv = .int .i64 (k : Int) ∧ Hid (∀ j (hj : j < vs.length), j < k → (tellB bs (C + 3 ^ (vs[j].toNat - 1)) || tellB bs (C + 2 * 3 ^ (vs[j].toNat - 1))) = true) ∧ Ext w1 wr) (fun iv _ => vs.length - (intOf iv).toNat)
        case atStart => exact ⟨0, by omega, rfl, hd (fun j _ h => by omega), Ext.refl _⟩
        case round =>
          obtain ⟨k2, hk2, rfl, HJ, hx⟩ := hrel
          have HX2 := hd hx
          clear hx
          have HXX := hd (HN.out.trans (X1.out.trans HX2.out))
          have HU2 := hd (HU1.out.ext HX2.out)
          have HA2 := hd (hAA.out.ext HXX.out)
          have HB2 : Hid (RdB wr (.slice B bs.length d) bs) := hd (hBB.out.ext HXX.out)
          by_cases hlt2 : k2 < vs.length
          · obtain ⟨a5, e5, hc5⟩ := RdI.at_ HU2 hlt2
            subst e5
            obtain ⟨m, hm, hmn, hm2⟩ := HVS.out _ (List.getElem_mem hlt2)
            have HNO2 : Hid ((tellB bs (C + 3 ^ (vs[k2].toNat - 1)) || tellB bs (C + 2 * 3 ^ (vs[k2].toNat - 1))) = false → r = false) := hd fun h => by rw [HK.out]; exact all_false (g := fun v => tellB bs (C + 3 ^ (v.toNat - 1)) || tellB bs (C + 2 * 3 ^ (v.toNat - 1))) hlt2 h
            have HJ2 : Hid ((tellB bs (C + 3 ^ (vs[k2].toNat - 1)) || tellB bs (C + 2 * 3 ^ (vs[k2].toNat - 1))) = true → ∀ j (hj : j < vs.length), j < k2 + 1 → (tellB bs (C + 3 ^ (vs[j].toNat - 1)) || tellB bs (C + 2 * 3 ^ (vs[j].toNat - 1))) = true) := hd fun h j hj hjk => by
              rcases Nat.lt_or_eq_of_le (Nat.lt_succ_iff.1 hjk) with h' | rfl
              · exact HJ.out j hj h'
              · exact h
            have hmt : vs[k2].toNat - 1 = m := by omega
            rw [hmt] at HNO2 HJ2
            have HPW := hd (fun w' => i_power3 m w' (by omega))
            have hvm : vs[k2] - 1 = (m : Int) := by omega
            clear hmt
            generalize vs[k2] = x at *
            rw [← hvm] at HPW
            generalize 3 ^ m = P at *
            have h1 : C + P < bs.length := by omega
            have HT1 := hd (tell_at h1)
            have HT2 := hd (tell_at hm2)
            rw [HT1.out, HT2.out] at HNO2 HJ2
            obtain ⟨g1, e1, hcb1⟩ := RdB.at_ HB2 h1
            subst e1
            obtain ⟨g2, e2, hcb2⟩ := RdB.at_ HB2 hm2
            injection e2 with e2
            subst e2
            obtain ⟨t1, ht1⟩ : ∃ t, bs[C + P] = t := ⟨_, rfl⟩
            obtain ⟨t2, ht2⟩ : ∃ t, bs[C + 2 * P] = t := ⟨_, rfl⟩
            rw [ht1] at hcb1 HNO2 HJ2
            rw [ht2] at hcb2 HNO2 HJ2
            have hx1 : 1 ≤ x ∧ x ≤ 6 := by omega
            have hC0 : 0 ≤ (C : Int) + (P : Int) := by omega
            have hC1 : (C : Int) + (P : Int) < (bs.length : Int) := by omega
            have hC2 : 0 ≤ (C : Int) + 2 * (P : Int) := by omega
            have hC3 : (C : Int) + 2 * (P : Int) < (bs.length : Int) := by omega
            have hn1 : ((C : Int) + (P : Int)).toNat = C + P := by omega
            have hn2 : ((C : Int) + 2 * (P : Int)).toNat = C + 2 * P := by omega
            clear ht1 ht2 HT1 HT2 hm hvm hn1 hn2 hmn
            cases t1
            · cases t2
              · have HKK := hd (HNO2.out rfl)
                go_wp2_with fail
                refine (HCC.out wr _ HA2.out).mono ?_
                rintro e w5 ⟨rfl, rfl⟩
                go_wp2_with fail
                refine (HPW.out wr).mono ?_
                rintro e w5 ⟨rfl, rfl⟩
                go_wp2_with fail
                refine (HCC.out wr _ HA2.out).mono ?_
                rintro e w5 ⟨rfl, rfl⟩
                go_wp2_with fail
                refine (HPW.out wr).mono ?_
                rintro e w5 ⟨rfl, rfl⟩
                go_wp2
                go_ret
                exact RetX.mk (by rw [HKK.out]; rfl) HXX.out
              · have HJ3 := hd (HJ2.out rfl)
                go_wp2_with fail
                refine (HCC.out wr _ HA2.out).mono ?_
                rintro e w5 ⟨rfl, rfl⟩
                go_wp2_with fail
                refine (HPW.out wr).mono ?_
                rintro e w5 ⟨rfl, rfl⟩
                go_wp2_with fail
                refine (HCC.out wr _ HA2.out).mono ?_
                rintro e w5 ⟨rfl, rfl⟩
                go_wp2_with fail
                refine (HPW.out wr).mono ?_
                rintro e w5 ⟨rfl, rfl⟩
                go_wp2
                go_roundw
                case rel => exact ⟨k2 + 1, by omega, by go_num, HJ3, HX2.out⟩
                case measure => simp [intOf]; omega
            · have HJ3 := hd (HJ2.out rfl)
              go_wp2_with fail
              refine (HCC.out wr _ HA2.out).mono ?_
              rintro e w5 ⟨rfl, rfl⟩
              go_wp2_with fail
              refine (HPW.out wr).mono ?_
              rintro e w5 ⟨rfl, rfl⟩
              go_wp2
              go_roundw
              case rel => exact ⟨k2 + 1, by omega, by go_num, HJ3, HX2.out⟩
              case measure => simp [intOf]; omega
          · have HKK : Hid (r = true) := hd (by rw [HK.out]; exact all_true fun j hj => HJ.out j hj (by omega))
            go_wp2
            go_ret
            exact RetX.mk (by rw [HKK.out]; rfl) HXX.out
end Go.Proofs.YtbdcomkbpapcaaaGreat
