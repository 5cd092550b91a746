/-
  The first bits for which a circuit is no interpolant: the impl's side. Conditions: sizes up to 2^20.
-/
import Derived.Test.YtjeeffmpfdhppaaBrokS
namespace Go.Proofs.Ytjeeffmpfdhppaa
open Go.RowKit
set_option maxRecDepth 100000 in
set_option maxHeartbeats 3200000 in
theorem i_brokenSide (f : Cnf) (k : Nat) (vs : List Int) (v gv : Value) (gs : List Gat) (w : World) (h : RdSp w v f k vs) (hgs : Rd_GateS w gv gs) (hg : goodB f = true) (hk : k ≤ f.cs.length) (hc : circB f.n gs = true) :
    Calls Try.prog 68 #[v, gv] w (RetX w (.int .i64 (brkN f k gs))) := by
  obtain ⟨hn0, hn12, hl60, -⟩ := good_inv hg
  have HS := hd h
  obtain ⟨bl, vc, vv, rfl, hB, -, -⟩ := h
  obtain ⟨c0, c1, c2, c3⟩ := blk4' hB
  have HGS := hd hgs
  have HLI : Hid (∀ c ∈ f.cs, ∀ l ∈ c, -12 ≤ l ∧ l ≤ 12 ∧ l ≠ 0) := hd fun c hc l hl => by have := (clause_inv ((good_inv hg).2.2.2 c hc)).2.2.1 l hl; omega
  have HLN : Hid (∀ c ∈ f.cs, c.length ≤ 1073741824) := hd fun c hc => by have := good_len hg c hc; omega
  have HCV : Hid (∀ (b : Nat) (w' : World), b < 1000000 → Rd_GateS w' gv gs → Calls Try.prog 63 #[gv, .int .i64 b] w' (RetX w' (.bool (circV b gs)))) := hd fun b w' hb hr => i_circuitValue f.n gs gv b w' hr hc hb
  have hTL : (f.cs.take k).length ≤ 1073741824 := Nat.le_trans (List.length_take_le _ _) (by omega)
  have hDL : (f.cs.drop k).length ≤ 1073741824 := Nat.le_trans (by simp) (Nat.le_trans hl60 (by decide))
  have HLT : Hid (∀ (b : Nat) (w' : World) (u : Value), b < 1000000 → RdSS w' u (f.cs.take k) → Calls Try.prog 129 #[u, .int .i64 b] w' (RetX w' (.bool (allT b (f.cs.take k))))) := hd fun b w' u hb hr =>
    i_isModel (f.cs.take k) u b w' hr hTL (hd fun c hc => HLN.out c (List.mem_of_mem_take hc)) (hd fun c hc => HLI.out c (List.mem_of_mem_take hc)) hb
  have HLD : Hid (∀ (b : Nat) (w' : World) (u : Value), b < 1000000 → RdSS w' u (f.cs.drop k) → Calls Try.prog 129 #[u, .int .i64 b] w' (RetX w' (.bool (allT b (f.cs.drop k))))) := hd fun b w' u hb hr =>
    i_isModel (f.cs.drop k) u b w' hr hDL (hd fun c hc => HLN.out c (List.mem_of_mem_drop hc)) (hd fun c hc => HLI.out c (List.mem_of_mem_drop hc)) hb
  have HLF := hd (fun w' h' => i_left f k vs (.pointer (some ⟨bl, 0, none⟩)) w' h' hk (by omega))
  have HRT := hd (fun w' h' => i_right f k vs (.pointer (some ⟨bl, 0, none⟩)) w' h' hk (by omega))
  have hbr : ∀ b, brkB f k gs b = if circV b gs then allT b (f.cs.drop k) else allT b (f.cs.take k) := fun _ => rfl
  have HBR := hd hbr
  clear hbr
  have hN : brkN f k gs = firstN (brkB f k gs) 0 (2 ^ f.n.toNat) := rfl
  have HN0 := hd hN
  clear hN
  generalize brkN f k gs = R at *
  generalize brkB f k gs = P at *
  obtain ⟨m, hm⟩ := Int.eq_ofNat_of_zero_le hn0
  rw [hm] at c0 hn12
  rw [hm, Int.toNat_natCast] at HN0
  have hm12 : m ≤ 12 := by omega
  have hpm := wrap_pow (m := m) (by omega)
  have hp12 := pow12 (k := m) (by omega)
  generalize hM : 2 ^ m = M at *
  clear hM hB hgs hg hc HLI HLN hk hm hn0 c1 c2 c3
  go_enter Try.func68, Try.ntmps68
  go_wp2
  try rw [hpm]
  clear c0
  go_loopw [13, 5, 6] (fun i _ _ wr => ∃ K : Nat, K ≤ M ∧ i = .int .i64 K ∧ Hid (R = firstN P K (M - K)) ∧ Ext w wr) (fun i _ _ _ => M - (intOf i).toNat)
  case atStart => exact ⟨0, by omega, rfl, HN0, Ext.refl _⟩
  case round =>
    obtain ⟨K, hK, rfl, HR, hx⟩ := hrel
    have HX := hd hx
    clear hx
    by_cases hlt : K < M
    · rw [firstN_step hlt] at HR
      have HPK := hd (HBR.out K)
      obtain ⟨q, hq⟩ : ∃ q, circV K gs = q := ⟨_, rfl⟩
      have HQ := hd hq
      rw [hq] at HPK
      clear hq
      go_wp2_with fail
      refine (rtx (HCV.out K _ (by omega) (HGS.out.ext HX.out)) HQ).mono ?_
      rintro e w2 ⟨rfl, hx2⟩
      have HX2 := hd (HX.out.trans hx2)
      clear hx2
      cases q
      · obtain ⟨r, hr⟩ : ∃ r, allT K (f.cs.take k) = r := ⟨_, rfl⟩
        have HR2 := hd hr
        have HPK' : Hid (P K = r) := hd (by rw [HPK.out]; exact hr)
        clear hr HPK
        go_wp2_with fail
        refine (HLF.out _ (HS.out.ext HX2.out)).mono ?_
        rintro e w3 ⟨u, rfl, hu, n3, rfl⟩
        have HU := hd (hu.ext (ext_drewN _ n3))
        clear hu
        go_wp2_with fail
        refine (rtx (HLT.out K _ _ (by omega) HU.out) HR2).mono ?_
        rintro e w4 ⟨rfl, hx4⟩
        have HX4 := hd ((HX2.out.trans (ext_drewN _ n3)).trans hx4)
        clear hx4
        cases r
        · go_wp2
          go_roundw
          case rel => exact ⟨K + 1, by omega, by go_num, hd (by rw [HR.out, HPK'.out]; rfl), HX4.out⟩
          case measure => simp [intOf]; omega
        · go_wp2
          go_ret
          exact RetX.mk (by rw [HR.out, HPK'.out]; rfl) HX4.out
      · obtain ⟨r, hr⟩ : ∃ r, allT K (f.cs.drop k) = r := ⟨_, rfl⟩
        have HR2 := hd hr
        have HPK' : Hid (P K = r) := hd (by rw [HPK.out]; exact hr)
        clear hr HPK
        go_wp2_with fail
        refine (HRT.out _ (HS.out.ext HX2.out)).mono ?_
        rintro e w3 ⟨u, rfl, hu, n3, rfl⟩
        have HU := hd (hu.ext (ext_drewN _ n3))
        clear hu
        go_wp2_with fail
        refine (rtx (HLD.out K _ _ (by omega) HU.out) HR2).mono ?_
        rintro e w4 ⟨rfl, hx4⟩
        have HX4 := hd ((HX2.out.trans (ext_drewN _ n3)).trans hx4)
        clear hx4
        cases r
        · go_wp2
          go_roundw
          case rel => exact ⟨K + 1, by omega, by go_num, hd (by rw [HR.out, HPK'.out]; rfl), HX4.out⟩
          case measure => simp [intOf]; omega
        · go_wp2
          go_ret
          exact RetX.mk (by rw [HR.out, HPK'.out]; rfl) HX4.out
    · obtain rfl : K = M := by omega
      go_wp2
      go_ret
      exact RetX.mk (by rw [HR.out, Nat.sub_self]; rfl) HX.out
end Go.Proofs.Ytjeeffmpfdhppaa
