/-
  HallSet of the spec's side. Condition: sizes up to 2^20.
-/
import Derived.Test.YtjeeffmpfdhppaaHall2
namespace Go.Proofs.Ytjeeffmpfdhppaa
open Go.RowKit
def befG : List Int → List Int → Bool
  | x :: xs, y :: ys => if x = y then befG xs ys else decide (x < y)
  | _, _ => false
/-- The shorter list first, then the lexicographic order. -/
def befI (a b : List Int) : Bool := if a.length = b.length then befG a b else decide (a.length < b.length)
set_option maxHeartbeats 1600000 in
theorem s_l27Before (xs ys : List Int) (v v' : Value) (w : World) (h : RdI w v xs) (h' : RdI w v' ys) (hl : xs.length ≤ 1048576) (_hl' : ys.length ≤ 1048576) :
    Calls Try.prog 73 #[v, v'] w (RetQ w (.bool (befI xs ys))) := by
  obtain ⟨A, c, rfl, h1, h2, ha⟩ := h.form
  obtain ⟨B, d, rfl, h3, h4, hb⟩ := h'.form
  clear h h'
  by_cases he : xs.length = ys.length
  · have HF : Hid (befI xs ys = befG xs ys) := hd (by unfold befI; rw [if_pos he])
    have HE := hd he
    rw [← he] at hb h3 _hl' ⊢
    clear he
    go_enter Try.func73, Try.ntmps73
    go_wp2
    go_loopw [5] (fun i wr => ∃ k m : Nat, k ≤ xs.length ∧ i = .int .i64 k ∧ Hid (befG xs ys = befG (xs.drop k) (ys.drop k)) ∧ wr = w.drewN m) (fun i _ => xs.length - (intOf i).toNat)
    case atStart => exact ⟨0, 0, by omega, rfl, hd rfl, rfl⟩
    case round =>
      obtain ⟨k, m, hk, rfl, HR, rfl⟩ := hrel
      by_cases hlt : k < xs.length
      · have hlt' : k < ys.length := by rw [← HE.out]; exact hlt
        obtain ⟨a, rfl, hc⟩ := RdI.at_ ha hlt
        obtain ⟨b, rfl, hc'⟩ := RdI.at_ hb hlt'
        rw [drop_cons hlt, drop_cons hlt'] at HR
        generalize xs[k] = x at *
        generalize ys[k] = y at *
        by_cases hxy : x = y
        · have hbne : (x != y) = false := by simp [hxy]
          have HN : Hid (befG xs ys = befG (xs.drop (k + 1)) (ys.drop (k + 1))) := hd (by rw [HR.out, befG, if_pos hxy])
          clear hxy
          go_wp2_with fail
          go_quiet (fail)
          go_wp2
          go_roundw
          case rel => exact ⟨k + 1, _, by omega, by go_num, HN, rfl⟩
          case measure => simp [intOf]; omega
        · have hbne : (x != y) = true := by simp [hxy]
          obtain ⟨q, hq⟩ : ∃ q, decide (x < y) = q := ⟨_, rfl⟩
          have HN : Hid (befG xs ys = q) := hd (by rw [HR.out, befG, if_neg hxy, hq])
          clear hxy
          go_wp2_with fail
          go_quiet (fail)
          go_wp2_with fail
          go_quiet (fail)
          go_wp2
          go_ret
          rw [World.drewN_drewN, World.drewN_drewN]
          exact RetQ.mkN (by rw [HF.out, HN.out, ← hq]; rfl)
      · obtain rfl : k = xs.length := by omega
        go_wp2
        go_ret
        exact RetQ.mkN (by rw [HF.out, HR.out, List.drop_eq_nil_of_le (Nat.le_refl _)]; rfl)
  · have HF : Hid (befI xs ys = decide (xs.length < ys.length)) := hd (by unfold befI; rw [if_neg he])
    have hbne : ((xs.length : Int) != (ys.length : Int)) = true := by simp; omega
    have hdd : decide ((xs.length : Int) < (ys.length : Int)) = decide (xs.length < ys.length) := by simp
    clear he
    go_enter Try.func73, Try.ntmps73
    go_wp2
    go_ret
    exact RetQ.mk (by rw [HF.out, ← hdd]; rfl)
/-- The pigeons of a number's bits. -/
def someOf (code : Nat) : Nat → List Int
  | 0 => []
  | n + 1 => someOf code n ++ (if bitN code n = 1 then [(n : Int) + 1] else [])
theorem someOf_mem (code : Nat) : ∀ n, ∀ z ∈ someOf code n, 1 ≤ z ∧ z ≤ (n : Int)
  | 0, z, hz => by simp [someOf] at hz
  | n + 1, z, hz => by
    rcases List.mem_append.1 hz with hz | hz
    · have := someOf_mem code n z hz; omega
    · split at hz
      · obtain rfl := List.mem_singleton.1 hz; omega
      · simp at hz
theorem someOf_len (code : Nat) : ∀ n, (someOf code n).length ≤ n
  | 0 => by simp [someOf]
  | n + 1 => by
    have := someOf_len code n
    rw [someOf, List.length_append]
    split <;> simp <;> omega
def hallStep (xss : List (List Int)) (s : List Int × Bool) (c : Nat) : List Int × Bool :=
  if hallB xss (someOf c xss.length) && (!s.2 || befI (someOf c xss.length) s.1) then (someOf c xss.length, true) else s
def hallF (xss : List (List Int)) : Nat → List Int × Bool
  | 0 => ([], false)
  | c + 1 => hallStep xss (hallF xss c) c
theorem hallF_len (xss : List (List Int)) : ∀ c, (hallF xss c).1.length ≤ xss.length
  | 0 => by simp [hallF]
  | c + 1 => by
    rw [hallF, hallStep]
    split
    · exact someOf_len _ _
    · exact hallF_len xss c
def hallR (xss : List (List Int)) : List Int × Bool := if choiceB xss then hallF xss (2 ^ xss.length) else ([], false)
set_option maxRecDepth 100000 in
set_option maxHeartbeats 3200000 in
theorem s_HallSet (xss : List (List Int)) (v : Value) (w : World) (h : RdSS w v xss) (b : Bd_IntSS xss) (_ : I64_IntSS xss) : Calls Try.prog 43 #[v] w (RetL2 w (hallR xss).1 (hallR xss).2) := by
  have HR := hd h
  have HB := hd b
  obtain ⟨A, c, rfl, h1, h2, -⟩ := h.form
  clear h b
  have X0 : Hid (Ext w (w.alloc (.cells #[] 3))) := hd (Ext.new _ _)
  have O0 : Hid (OwnI (w.alloc (.cells #[] 3)) w.heap.size 3 (.slice (some ⟨w.heap.size, 0, none⟩) 0 0) []) := hd (ownI_emp' rfl (Nat.le_refl _))
  obtain ⟨q, hq⟩ : ∃ q, choiceB xss = q := ⟨_, rfl⟩
  have HQ := hd hq
  have HI := hd (fun e => choice_inv (hq.trans e) : q = true → _)
  clear hq
  cases q
  · have HN : Hid (hallR xss = ([], false)) := hd (by unfold hallR; rw [HQ.out]; rfl)
    go_enter Try.func43, Try.ntmps43
    go_wp2_with fail
    refine (rtq (s_l28Choice xss _ _ (HR.out.ext X0.out) (by have := HB.out.1; omega) HB.out.hid) HQ).mono ?_
    rintro e w1 ⟨rfl, n, rfl⟩
    go_wp2
    go_ret2
    exact RetL2.mk (by rw [HN.out]) (by rw [HN.out]; exact own_ext O0.out (ext_drewN _ _)) (X0.out.trans (ext_drewN _ _))
  · obtain ⟨hl1, hl4, hlen0, -⟩ := HI.out rfl
    have HLEN := hd hlen0
    clear hlen0 HI
    have hpm := wrap_pow (m := xss.length) (by omega)
    have hM : 2 ^ xss.length ≤ 2 ^ 4 := Nat.pow_le_pow_right (by decide) hl4
    have HN : Hid (hallR xss = hallF xss (2 ^ xss.length)) := hd (by unfold hallR; rw [HQ.out, if_pos rfl])
    generalize 2 ^ xss.length = M at *
    go_enter Try.func43, Try.ntmps43
    go_wp2_with fail
    refine (rtq (s_l28Choice xss _ _ (HR.out.ext X0.out) (by have := HB.out.1; omega) HB.out.hid) HQ).mono ?_
    rintro e w1 ⟨rfl, n, rfl⟩
    have X1 : Hid (Ext w ((w.alloc (.cells #[] 3)).drewN n)) := hd (X0.out.trans (ext_drewN _ _))
    have O1 := hd (own_ext O0.out (ext_drewN _ n))
    go_wp2
    go_loopw [6, 4, 5] (fun x bv fv wr => ∃ k : Nat, k ≤ M ∧ x = .int .i64 (k : Int) ∧ OwnI wr w.heap.size 3 bv (hallF xss k).1 ∧ fv = .bool (hallF xss k).2 ∧ Ext w wr) (fun x _ _ _ => M - (intOf x).toNat)
    case atStart => exact ⟨0, by omega, rfl, O1.out, rfl, X1.out⟩
    case round =>
      obtain ⟨k, hk, rfl, ho, rfl, hx⟩ := hrel
      have HX := hd hx
      have HO := hd ho
      clear ho hx
      by_cases hlt : k < M
      · have HS : Hid (hallF xss (k + 1) = hallStep xss (hallF xss k) k) := hd rfl
        have hbl := hallF_len xss k
        generalize hallF xss k = st at *
        obtain ⟨best, fnd⟩ := st
        have HO : Hid (OwnI wr w.heap.size 3 _ best) := HO
        have hbl : best.length ≤ xss.length := hbl
        have E0 : Hid (OwnI (wr.alloc (.cells #[] 3)) wr.heap.size 3 (.slice (some ⟨wr.heap.size, 0, none⟩) 0 0) (someOf k 0)) := hd (ownI_emp' rfl (Nat.le_refl _))
        have EX : Hid (Ext wr (wr.alloc (.cells #[] 3))) := hd (Ext.new _ _)
        obtain ⟨wo, rfl⟩ : ∃ wo : World, wo = wr := ⟨_, rfl⟩
        go_wp2
        go_loopw [8, 7] (fun x pv wr => ∃ j : Nat, j ≤ xss.length ∧ x = .int .i64 (j : Int) ∧ OwnI wr wo.heap.size 3 pv (someOf k j) ∧ Ext wo wr) (fun x _ _ => xss.length - (intOf x).toNat)
        case atStart => exact ⟨0, by omega, rfl, E0.out, EX.out⟩
        case round =>
          obtain ⟨j, hj, rfl, ho2, hx2⟩ := hrel
          have HX2 := hd hx2
          have HO2 := hd ho2
          clear ho2 hx2
          have hsl := someOf_len k j
          by_cases hlt2 : j < xss.length
          · have hsh := shr_and (b := k) (k := j) (by omega)
            have hbt := bitN_lt k j
            have HSO : Hid (someOf k (j + 1) = someOf k j ++ (if bitN k j = 1 then [(j : Int) + 1] else [])) := hd rfl
            generalize bitN k j = t at *
            by_cases ht : t = 1
            · subst ht
              go_wp2_with (at_builtin; refine appI wr HO2.out rfl _ _ rfl _ (by rfl) (by rfl) (by omega) HX2.out.size ?_; intro v' w1 ho1 hg1 _)
              go_roundw
              case rel => exact ⟨j + 1, by omega, by go_num, by rw [HSO.out]; exact ho1, ext_app HX2.out hg1 (ownI_ge HO2.out)⟩
              case measure => simp [intOf]; omega
            · obtain rfl : t = 0 := by omega
              go_wp2
              go_roundw
              case rel => exact ⟨j + 1, by omega, by go_num, by rw [HSO.out]; simpa using HO2.out, HX2.out⟩
              case measure => simp [intOf]; omega
          · obtain rfl : j = xss.length := by omega
            have HMEM := hd (someOf_mem k xss.length)
            have HB2 : Hid (hallStep xss (best, fnd) k = if hallB xss (someOf k xss.length) && (!fnd || befI (someOf k xss.length) best) then (someOf k xss.length, true) else (best, fnd)) := hd rfl
            generalize someOf k xss.length = sm at *
            have HAB : Hid (hallB xss sm = decide ((sortU (hallL xss sm)).length < sm.length)) := hd rfl
            have HOB : Hid (OwnI wr w.heap.size 3 _ best) := hd (own_ext HO.out HX2.out)
            have XX := hd (HX.out.trans HX2.out)
            obtain ⟨A3, c3, rfl, h5, h6, -⟩ := HO2.out.rd.form
            go_wp2_with fail
            refine (s_l28Holes xss sm _ _ _ (HR.out.ext XX.out) HO2.out.rd (by omega) HLEN (by omega) HMEM).mono ?_
            rintro e w2 ⟨rfl, hx3⟩
            have X3 := hd (XX.out.trans hx3)
            have X32 := hd hx3
            have O3 := hd (own_rebase (own_ext HO2.out hx3) HX.out.size : Own w2 w.heap.size 3 1 _ _ _)
            have OB3 : Hid (OwnI w2 w.heap.size 3 _ best) := hd (own_ext HOB.out hx3)
            have R3 := hd (HO2.out.rd.ext hx3)
            clear hx3
            have hhl : (sortU (hallL xss sm)).length ≤ 3 * sm.length := Nat.le_trans (sortU_len _) (hallL_len HLEN.out sm)
            generalize (sortU (hallL xss sm)).length = hn at *
            by_cases hh : hn < sm.length
            · have HAB' : Hid (hallB xss sm = true) := hd (by rw [HAB.out, decide_eq_true hh])
              have hhi : (hn : Int) < (sm.length : Int) := by omega
              cases fnd
              · have HN2 : Hid (hallF xss (k + 1) = (sm, true)) := hd (by rw [HS.out, HB2.out, HAB'.out]; rfl)
                go_wp2
                go_roundw
                case rel => exact ⟨k + 1, by omega, by go_num, by rw [HN2.out]; exact O3.out, by rw [HN2.out], X3.out⟩
                case measure => simp [intOf]; omega
              · obtain ⟨A4, c4, rfl, h7, h8, -⟩ := OB3.out.rd.form
                obtain ⟨t, ht⟩ : ∃ t, befI sm best = t := ⟨_, rfl⟩
                have HT := hd ht
                clear ht
                go_wp2_with fail
                refine (rtq (s_l27Before sm best _ _ _ R3.out OB3.out.rd (by omega) (by omega)) HT).mono ?_
                rintro e w3 ⟨rfl, n3, rfl⟩
                cases t
                · have HN2 : Hid (hallF xss (k + 1) = (best, true)) := hd (by rw [HS.out, HB2.out, HAB'.out, HT.out]; rfl)
                  go_wp2
                  go_roundw
                  case rel => exact ⟨k + 1, by omega, by go_num, by rw [HN2.out]; exact own_ext OB3.out (ext_drewN _ _), by rw [HN2.out], X3.out.trans (ext_drewN _ _)⟩
                  case measure => simp [intOf]; omega
                · have HN2 : Hid (hallF xss (k + 1) = (sm, true)) := hd (by rw [HS.out, HB2.out, HAB'.out, HT.out]; rfl)
                  go_wp2
                  go_roundw
                  case rel => exact ⟨k + 1, by omega, by go_num, by rw [HN2.out]; exact own_ext O3.out (ext_drewN _ _), by rw [HN2.out], X3.out.trans (ext_drewN _ _)⟩
                  case measure => simp [intOf]; omega
            · have HAB' : Hid (hallB xss sm = false) := hd (by rw [HAB.out, decide_eq_false hh])
              have hhi : ¬ (hn : Int) < (sm.length : Int) := by omega
              have HN2 : Hid (hallF xss (k + 1) = (best, fnd)) := hd (by rw [HS.out, HB2.out, HAB'.out]; rfl)
              go_wp2
              go_roundw
              case rel => exact ⟨k + 1, by omega, by go_num, by rw [HN2.out]; exact OB3.out, by rw [HN2.out], X3.out⟩
              case measure => simp [intOf]; omega
      · obtain rfl : k = M := by omega
        go_wp2
        go_ret2
        exact RetL2.mk (by rw [HN.out]) (by rw [HN.out]; exact HO.out) HX.out
end Go.Proofs.Ytjeeffmpfdhppaa
