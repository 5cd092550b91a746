/-
  HallSet of the program's side. Condition: none beyond the law's.
-/
import Derived.Test.YtjeeffmpfdhppaaHallP
import Derived.Test.YtjeeffmpfdhppaaChsK
namespace Go.Proofs.Ytjeeffmpfdhppaa
open Go.RowKit
set_option maxRecDepth 100000 in
set_option maxHeartbeats 3200000 in
theorem i_HallSet (xss : List (List Int)) (v : Value) (w : World) (h : RdSS w v xss) (b : Bd_IntSS xss) (_ : I64_IntSS xss) : Calls Try.prog 45 #[v] w (RetL2 w (hallR xss).1 (hallR xss).2) := by
  have HR := hd h
  have HB := hd b
  obtain ⟨A, c, rfl, h1, h2, -⟩ := h.form
  clear h b
  obtain ⟨q, hq⟩ : ∃ q, choiceB xss = q := ⟨_, rfl⟩
  have HQ := hd hq
  have HI := hd (fun e => choice_inv (hq.trans e) : q = true → _)
  clear hq
  cases q
  · have HN : Hid (hallR xss = ([], false)) := hd (by unfold hallR; rw [HQ.out]; rfl)
    go_enter Try.func45, Try.ntmps45
    go_wp2_with fail
    refine (rt (i_IsChoice xss _ _ HR.out (by have := HB.out.1; omega) HB.out.hid) HQ).mono ?_
    rintro e w1 ⟨rfl, rfl⟩
    go_wp2
    go_ret2
    exact RetL2.mk (by rw [HN.out]) (by rw [HN.out]; exact ownI_nil _ _ _) (Ext.refl _)
  · obtain ⟨hl1, hl4, hlen0, hel0⟩ := HI.out rfl
    have HLEN := hd hlen0
    have HEL := hd hel0
    clear hlen0 hel0 HI
    have X0 : Hid (Ext w w) := hd (Ext.refl _)
    have HN : Hid (hallR xss = hallT xss (restL xss.length 1)) := hd (by unfold hallR; rw [HQ.out, if_pos rfl]; exact hall_first (by omega))
    go_enter Try.func45, Try.ntmps45
    go_wp2_with fail
    refine (rt (i_IsChoice xss _ _ HR.out (by have := HB.out.1; omega) HB.out.hid) HQ).mono ?_
    rintro e w1 ⟨rfl, rfl⟩
    go_wp2
    go_loopw [4] (fun x wr => ∃ k : Nat, 1 ≤ k ∧ k ≤ xss.length + 1 ∧ x = .int .i64 (k : Int) ∧ Hid (hallR xss = hallT xss (restL xss.length k)) ∧ Ext w wr) (fun x _ => xss.length + 1 - (intOf x).toNat)
    case atStart => exact ⟨1, by omega, by omega, rfl, HN, X0.out⟩
    case round =>
      obtain ⟨k, hk1, hk, rfl, HA, hx⟩ := hrel
      have HX := hd hx
      clear hx
      by_cases hlt : k ≤ xss.length
      · have HA2 : Hid (hallR xss = hallT xss (chL xss.length k [] 1 ++ restL xss.length (k + 1))) := hd (by rw [HA.out, restL_step hlt])
        have HSM := hd (chL_small xss.length (by omega) k (by omega))
        go_wp2_with fail
        refine (i_choices xss.length k 16 _ (by omega) (by omega) (by omega) HSM.out.1).mono ?_
        rintro e w2 ⟨u, rfl, hu, hx2⟩
        have HU := hd hu
        have HX2 := hd (HX.out.trans hx2)
        have XW := hd hx2
        have hcl := HSM.out.1
        have HSM := hd HSM.out.2
        clear hu hx2
        generalize chL xss.length k [] 1 = C at *
        obtain ⟨R, hre⟩ : ∃ R, restL xss.length (k + 1) = R := ⟨_, rfl⟩
        have HRE := hd hre
        rw [hre] at HA2
        clear hre
        obtain ⟨D, d, rfl, h3, h4⟩ := HU.out.form
        have XW2 : Hid (Ext wr w2) := XW
        have X2R : Hid (Ext w2 w2) := hd (Ext.refl _)
        go_wp2
        go_loopw [21] (fun x wq => ∃ j : Nat, j ≤ C.length ∧ x = .int .i64 (j : Int) ∧ Hid (hallR xss = hallT xss (C.drop j ++ R)) ∧ Ext w2 wq) (fun x _ => C.length - (intOf x).toNat)
        case atStart => exact ⟨0, by omega, rfl, HA2, X2R.out⟩
        case round =>
          obtain ⟨j, hj, rfl, HA3, hx3⟩ := hrel
          have HX3 := hd hx3
          clear hx3
          by_cases hlt2 : j < C.length
          · have hsl := HSM.out (C[j]) (List.getElem_mem _)
            obtain ⟨u, hu, ho, hgb, hcc⟩ := HU.out.inner hlt2
            obtain ⟨a0, rfl, hcell0⟩ := hcc D _ d rfl
            have hcell := HX3.out.cell hcell0
            have HO := hd (own_ext ho HX3.out)
            rw [drop_cons hlt2] at HA3
            generalize C[j] = s at *
            have HME := hd hsl.2
            have hsl := hsl.1
            clear hu hgb hcc hcell0 ho
            obtain ⟨B, e, rfl, h5, h6⟩ := OwnI.form HO.out
            obtain ⟨q, hq⟩ : ∃ q, hallB xss s = q := ⟨_, rfl⟩
            have HQ2 := hd hq
            clear hq
            have XQ := hd (HX2.out.trans HX3.out)
            go_wp2_with fail
            refine (rtx (i_isHall xss s _ _ _ (HR.out.ext XQ.out) (OwnI.rd HO.out) (by omega) HLEN HEL (by omega) HME) HQ2).mono ?_
            rintro e w3 ⟨rfl, hx4⟩
            have HX4 := hd hx4
            clear hx4
            cases q
            · have HA4 : Hid (hallR xss = hallT xss (C.drop (j + 1) ++ R)) := hd (by rw [HA3.out, List.cons_append, hallT, HQ2.out]; rfl)
              go_wp2
              go_roundw
              case rel => exact ⟨j + 1, by omega, by go_num, HA4, HX3.out.trans HX4.out⟩
              case measure => simp [intOf]; omega
            · have HA4 : Hid (hallR xss = (s, true)) := hd (by rw [HA3.out, List.cons_append, hallT, HQ2.out]; rfl)
              go_wp2
              go_ret2
              exact RetL2.mk (by rw [HA4.out]) (by rw [HA4.out]; exact own_rebase (own_ext HO.out HX4.out) HX.out.size) (XQ.out.trans HX4.out)
          · obtain rfl : j = C.length := by omega
            have HA4 : Hid (hallR xss = hallT xss (restL xss.length (k + 1))) := hd (by rw [HRE.out, HA3.out, List.drop_eq_nil_of_le (Nat.le_refl _)]; rfl)
            go_wp2
            go_roundw
            case rel => exact ⟨k + 1, by omega, by omega, by go_num, HA4, HX2.out.trans HX3.out⟩
            case measure => simp [intOf]; omega
      · obtain rfl : k = xss.length + 1 := by omega
        have HA4 : Hid (hallR xss = ([], false)) := hd (by rw [HA.out, restL_end]; rfl)
        go_wp2
        go_ret2
        exact RetL2.mk (by rw [HA4.out]) (by rw [HA4.out]; exact ownI_nil _ _ _) HX.out
end Go.Proofs.Ytjeeffmpfdhppaa
