/-
  Chapter 28: matchings: the search of both sides, by one recursion. Conditions: the lists are a choice.
-/
import Derived.Test.YtegaablidoibdaaC28
import Derived.Test.YtegaablidoibdaaApp2
import Derived.Test.YtegaablidoibdaaLaw
import Derived.Deep.DrawnRows
namespace Go.Proofs.Ytegaablidoibdaa
open Go.RowKit

/-- The first of the holes with which the search goes through. -/
def tryG (rec : List Int → Option (List Int)) (us : List Int) : List Int → Option (List Int)
  | [] => none
  | j :: r => if hasI us j then tryG rec us r else match rec (us ++ [j]) with
    | some o => some o
    | none => tryG rec us r
def matchF (xss : List (List Int)) : Nat → List Int → Option (List Int)
  | 0, us => some us
  | f + 1, us => tryG (matchF xss f) us ((xss[us.length]?).getD [])
def matchB (xss : List (List Int)) : Option (List Int) := if choiceB xss then matchF xss xss.length [] else none
/-- A call returns a list and whether there is one; the list lies in blocks from lo on. -/
def RetM (w : World) (lo : Nat) (e : TypeId) (o : Option (List Int)) : Ending → World → Prop := fun en w' => ∃ v, en = .returned (.tuple #[v, .bool o.isSome]) ∧ OwnI w' lo e v (o.getD []) ∧ Ext w w'
theorem RetM.some_ {w w' : World} {lo : Nat} {e : TypeId} {o : Option (List Int)} {xs : List Int} {v : Value} (ho : o = some xs) (h : OwnI w' lo e v xs) (hx : Ext w w') : RetM w lo e o (.returned (.tuple #[v, .bool true])) w' := ⟨v, by rw [ho]; rfl, by rw [ho]; exact h, hx⟩
theorem RetM.none_ {w w' : World} {lo : Nat} {e : TypeId} {o : Option (List Int)} {v : Value} (ho : o = none) (h : OwnI w' lo e v []) (hx : Ext w w') : RetM w lo e o (.returned (.tuple #[v, .bool false])) w' := ⟨v, by rw [ho]; rfl, by rw [ho]; exact h, hx⟩

attribute [local go_sem ↓] Go.wp_at_zero Go.wp_at_succ
/-- The second of two new blocks. -/
theorem heap_n3 (w : World) (o o' : Obj) : ((w.alloc o).alloc o').heap[w.heap.size + 1]? = some o' := by simpa using heap_n1 (w.alloc o) o'
set_option maxHeartbeats 1600000 in
theorem i_match (xss : List (List Int)) (lv : Value) (hl4 : xss.length ≤ 4) (hle : Hid (∀ xs ∈ xss, xs.length ≤ 1073741824)) : ∀ (f : Nat) (us : List Int) (v : Value) (w : World) (lo : Nat), us.length + f = xss.length → RdSS w lv xss → OwnI w lo 3 v us → lo ≤ w.heap.size →
    Calls Try.prog 114 #[lv, v] w (RetM w lo 3 (matchF xss f us)) := by
  intro f
  induction f with
  | zero =>
    intro us v w lo hf h hv hlo
    obtain ⟨A, c, rfl, h1, h2, ha⟩ := h.form
    obtain ⟨A2, c2, rfl, hv2⟩ := hv.form
    have hb : ((us.length : Int) == (xss.length : Int)) = true := by rw [natcast_beq]; simp; omega
    clear h hv hf
    go_enter Try.func114, Try.ntmps114
    go_wp2
    go_ret2
    exact RetM.some_ rfl hv2.out (Ext.refl _)
  | succ f ih =>
    intro us v w lo hf h hv hlo
    have IH := hd ih
    clear ih
    obtain ⟨A, c, rfl, h1, h2, ha⟩ := h.form
    obtain ⟨A2, c2, rfl, hv2⟩ := hv.form
    have hb : ((us.length : Int) == (xss.length : Int)) = false := by rw [natcast_beq]; simp; omega
    have hult : us.length < xss.length := by omega
    obtain ⟨a, u, rfl, hc, hu⟩ := RdSS.at_ ha hult
    have HM : Hid (matchF xss (f + 1) us = tryG (matchF xss f) us xss[us.length]) := hd (by rw [matchF, List.getElem?_eq_getElem hult]; rfl)
    have hxl := hd (hle.out _ (List.getElem_mem hult))
    have HF := hd hf
    clear h hv hf
    generalize xss[us.length] = xs at *
    obtain ⟨A3, c3, rfl, h3, h4, hu3⟩ := hu.form
    have hxl2 := hxl.out
    clear hu
    go_enter Try.func114, Try.ntmps114
    go_wp2
    go_loopw [22] (fun i wr => ∃ k : Nat, k ≤ xs.length ∧ i = .int .i64 (k : Int) ∧ Hid (matchF xss (f + 1) us = tryG (matchF xss f) us (xs.drop k)) ∧ Ext w wr) (fun i _ => xs.length - (intOf i).toNat)
    case atStart => exact ⟨0, by omega, rfl, HM, Ext.refl _⟩
    case round =>
      clear HM hc
      obtain ⟨k, hk, rfl, HR, hx⟩ := hrel
      have HX := hd hx
      clear hx
      by_cases hlt : k < xs.length
      · obtain ⟨a', rfl, hc0⟩ := RdI.at_ hu3 hlt
        have hc := HX.out.cell hc0
        rw [drop_cons hlt] at HR
        generalize xs[k] = j at *
        have HV := hd (hv2.out.ext HX.out)
        have hls := HX.out.size
        obtain ⟨q, hq⟩ : ∃ q, hasI us j = q := ⟨_, rfl⟩
        have HQ := hd hq
        clear hq hc0
        cases q
        · go_wp2_with fail
          refine (rt (slices_Contains us _ _ _ HV.out.rd (by omega)) HQ).mono ?_
          rintro e w1 ⟨rfl, rfl⟩
          go_wp2_with fail
          refine (slices_Clone us _ _ HV.out.rd (by omega)).mono ?_
          rintro e w2 ⟨u2, rfl, hu2, hx2⟩
          have hx2s := hx2.size
          have hx2' := hd hx2
          clear hx2
          go_wp2_with (at_builtin; refine appI w2 hu2 rfl _ _ rfl _ (by rfl) (by rfl) (by omega) hx2s ?_; intro v' w3 ho3 hg3 _)
          have X3 : Hid (Ext wr w3) := hd (ext_app hx2'.out hg3 (ownI_ge hu2))
          have O3 := hd ho3
          have hx3s := X3.out.size
          clear ho3 hg3 hu2
          go_wp2_with fail
          refine (IH.out (us ++ [j]) v' w3 lo (by simp; have := HF.out; omega) (ha.out.ext (HX.out.trans X3.out)) (own_rebase O3.out (by omega)) (by omega)).mono ?_
          rintro e w4 ⟨v4, rfl, ho4, hx4⟩
          have X4 := hd (HX.out.trans (X3.out.trans hx4))
          have O4 := hd ho4
          obtain ⟨o, ho⟩ : ∃ o, matchF xss f (us ++ [j]) = o := ⟨_, rfl⟩
          have HO := hd ho
          rw [ho]
          clear ho ho4 hx4
          cases o with
          | none =>
            go_wp2
            go_roundw
            case rel => exact ⟨k + 1, by omega, by go_num, hd (by rw [HR.out, tryG, HQ.out, HO.out]; rfl), X4.out⟩
            case measure => simp [intOf]; omega
          | some o =>
            go_wp2
            go_ret2
            exact RetM.some_ (by rw [HR.out, tryG, HQ.out, HO.out]; rfl) (by have := O4.out; rw [HO.out] at this; exact this) X4.out
        · go_wp2_with fail
          refine (rt (slices_Contains us _ _ _ HV.out.rd (by omega)) HQ).mono ?_
          rintro e w1 ⟨rfl, rfl⟩
          go_wp2
          go_roundw
          case rel => exact ⟨k + 1, by omega, by go_num, hd (by rw [HR.out, tryG, HQ.out]; rfl), HX.out⟩
          case measure => simp [intOf]; omega
      · go_wp2
        go_ret2
        exact RetM.none_ (by rw [HR.out, List.drop_eq_nil_of_le (by omega)]; rfl) (ownI_nil _ _ _) HX.out
set_option maxRecDepth 100000 in
set_option maxHeartbeats 1600000 in
theorem s_l28Match (xss : List (List Int)) (lv : Value) (hl4 : xss.length ≤ 4) (hle : Hid (∀ xs ∈ xss, xs.length ≤ 1073741824)) : ∀ (f : Nat) (us : List Int) (v : Value) (w : World), us.length + f = xss.length → RdSS w lv xss → RdI w v us →
    Calls Try.prog 113 #[lv, v] w (RetM w w.heap.size 3 (matchF xss f us)) := by
  intro f
  induction f with
  | zero =>
    intro us v w hf h hv
    obtain ⟨A, c, rfl, h1, h2, ha⟩ := h.form
    obtain ⟨A2, c2, rfl, -, -, hv2⟩ := hv.form
    have hb : ((us.length : Int) == (xss.length : Int)) = true := by rw [natcast_beq]; simp; omega
    have HE := hd (ownI_lit0 (Nat.le_refl w.heap.size))
    have HV := hd (hv2.out.ext (Ext.new w (.cells #[] 3)))
    have hu4 : us.length ≤ 4 := by omega
    clear h hv hf
    go_enter Try.func113, Try.ntmps113
    go_wp2_with (at_builtin; refine appSI (xs := []) _ HE.out HV.out rfl _ _ rfl (by rfl) (by rfl) (by simp; omega) (by simp) ?_; intro v' w1 ho1 hg1 _)
    go_ret2
    exact RetM.some_ rfl ho1 (ext_appS (Ext.new _ _) hg1 (fun g hg => by cases hg; exact Nat.le_refl _))
  | succ f ih =>
    intro us v w hf h hv
    have IH := hd ih
    clear ih
    obtain ⟨A, c, rfl, h1, h2, ha⟩ := h.form
    obtain ⟨A2, c2, rfl, -, -, hv2⟩ := hv.form
    have hb : ((us.length : Int) == (xss.length : Int)) = false := by rw [natcast_beq]; simp; omega
    have hult : us.length < xss.length := by omega
    obtain ⟨a, u, rfl, hc, hu⟩ := RdSS.at_ ha hult
    have HM : Hid (matchF xss (f + 1) us = tryG (matchF xss f) us xss[us.length]) := hd (by rw [matchF, List.getElem?_eq_getElem hult]; rfl)
    have hxl := hd (hle.out _ (List.getElem_mem hult))
    have HF := hd hf
    clear h hv hf
    generalize xss[us.length] = xs at *
    obtain ⟨A3, c3, rfl, h3, h4, hu3⟩ := hu.form
    have hxl2 := hxl.out
    clear hu
    go_enter Try.func113, Try.ntmps113
    go_wp2
    go_loopw [7] (fun i wr => ∃ k : Nat, k ≤ xs.length ∧ i = .int .i64 (k : Int) ∧ Hid (matchF xss (f + 1) us = tryG (matchF xss f) us (xs.drop k)) ∧ Ext w wr) (fun i _ => xs.length - (intOf i).toNat)
    case atStart => exact ⟨0, by omega, rfl, HM, Ext.refl _⟩
    case round =>
      clear HM hc
      obtain ⟨k, hk, rfl, HR, hx⟩ := hrel
      have HX := hd hx
      clear hx
      by_cases hlt : k < xs.length
      · obtain ⟨a', rfl, hc0⟩ := RdI.at_ hu3 hlt
        have hc := HX.out.cell hc0
        rw [drop_cons hlt] at HR
        generalize xs[k] = j at *
        have HV := hd (hv2.out.ext HX.out)
        obtain ⟨q, hq⟩ : ∃ q, hasI us j = q := ⟨_, rfl⟩
        have HQ := hd hq
        clear hq hc0
        have e1 : (0 : Int) ≤ (k : Int) := by omega
        have e2 : (k : Int) < (xs.length : Int) := by omega
        cases q
        · go_wp2_with fail
          refine (rt (s_l1Has us _ _ _ HV.out (by omega)) HQ).mono ?_
          rintro e w1 ⟨rfl, rfl⟩
          go_wp2_with fail
          obtain ⟨wo, rfl⟩ : ∃ wo : World, wo = wr := ⟨_, rfl⟩
          go_region_held3 (fun w' => w'.cell? (a'.add k) = some (.int .i64 j) ∧ Ext wo w') ((refine keep_mk ?_ hc; repeat (first | assumption | exact Ext.refl _ | apply Ext.drew | refine Ext.alloc ?_ _)))
            (first
              | (go_at_call 113; refine (IH.out (us ++ [j]) u2 w2 (by simp; have := HF.out; omega) (ha.out.ext (HX.out.trans X2)) ho2.rd).mono ?_; rintro e w4 ⟨v4, rfl, ho4, hx4⟩; have X4 : Ext wo w4 := X2.trans hx4)
              | (refine stepSI _ (v := .slice (some ⟨_, 0, none⟩) 0 0) (src := .slice A2 us.length c2) (xs := []) (ys := us) (base := wo.heap.size) ?_ ?_ rfl (.tmp 37) (.tmp 38) rfl (by rfl) (by rfl) (by first | (simp; done) | (simp; omega) | omega) (by first | (simp; done) | (simp; omega) | omega) ?_
                 · refine ownI_at ?_ (by first | (simp; done) | (simp; omega) | omega)
                   first | with_reducible exact heap_n1 _ _ | with_reducible exact heap_n2 _ _ _ | with_reducible exact heap_n3 _ _ _ | exact heap_n1 _ _ | exact heap_n2 _ _ _ | exact heap_n3 _ _ _
                 · go_split_ands; exact HV.out.ext (by assumption)
                 intro u1 w1 ho1 hg1 hb1
                 have X1 : Ext wo w1 := ext_appS (by go_split_ands; assumption) hg1 (fun g hg => by cases hg; first | (simp; done) | (simp; omega)))
              | (refine stepSI _ (v := u1) (src := .slice (some ⟨_, 0, none⟩) 1 1) (xs := us) (ys := [j]) (base := wo.heap.size) ?_ ?_ rfl (.tmp 39) (.tmp 44) rfl (by rfl) (by rfl) (by first | (simp; done) | (simp; omega) | omega) (by first | exact X1.size | exact (X1.alloc _).size) ?_
                 · first | exact ho1 | exact own_ext ho1 (Ext.new _ _)
                 · first | exact rdI_at (heap_n1 _ _) | exact rdI_kept hg1 (heap_n2 _ _ _) (fun h => by have h' := Option.some.inj h; simp at h'; try omega) | exact rdI_kept hg1 (heap_n3 _ _ _) (fun h => by have h' := Option.some.inj h; simp at h'; try omega)
                 intro u2 w2 ho2 hg2 hb2
                 have X2 : Ext wo w2 := ext_appS (by first | exact X1 | exact X1.alloc _) hg2 (fun g hg => ownI_ge ho1 g hg)))
          all_goals
            (have XX := hd (HX.out.trans X4)
             have O4 : Hid (OwnI w4 w.heap.size 3 v4 ((matchF xss f (us ++ [j])).getD [])) := hd (own_rebase ho4 (by have := HX.out.size; have := X2.size; omega))
             obtain ⟨o, ho⟩ : ∃ o, matchF xss f (us ++ [j]) = o := ⟨_, rfl⟩
             have HO := hd ho
             rw [ho]
             clear ho ho4 hx4 X1 X2 X4
             cases o with
             | none =>
               go_wp2
               go_roundw
               case rel => exact ⟨k + 1, by omega, by go_num, hd (by rw [HR.out, tryG, HQ.out, HO.out]; rfl), XX.out⟩
               case measure => simp [intOf]; omega
             | some o =>
               go_wp2
               go_ret2
               exact RetM.some_ (by rw [HR.out, tryG, HQ.out, HO.out]; rfl) (by have := O4.out; rw [HO.out] at this; exact this) XX.out)
        · go_wp2_with fail
          refine (rt (s_l1Has us _ _ _ HV.out (by omega)) HQ).mono ?_
          rintro e w1 ⟨rfl, rfl⟩
          go_wp2
          go_roundw
          case rel => exact ⟨k + 1, by omega, by go_num, hd (by rw [HR.out, tryG, HQ.out]; rfl), HX.out⟩
          case measure => simp [intOf]; omega
      · have HE := hd (ownI_lit0 (w := wr) HX.out.size)
        go_wp2
        go_ret2
        exact RetM.none_ (by rw [HR.out, List.drop_eq_nil_of_le (by omega)]; rfl) HE.out (HX.out.alloc _)
theorem tryG_none {us : List Int} {rec : List Int → Option (List Int)} (n : Nat) (h : ∀ j o, rec (us ++ [j]) = some o → o.length = n) : ∀ (xs : List Int) (o : List Int), tryG rec us xs = some o → o.length = n
  | [], o, e => by cases e
  | j :: r, o, e => by
    unfold tryG at e
    split at e
    · exact tryG_none n h r o e
    · split at e
      · rename_i o' he
        injection e with e
        subst e
        exact h _ _ he
      · exact tryG_none n h r o e
theorem matchF_len (xss : List (List Int)) : ∀ (f : Nat) (us o : List Int), matchF xss f us = some o → o.length = us.length + f
  | 0, us, o, e => by unfold matchF at e; injection e with e; subst e; rfl
  | f + 1, us, o, e => by
    unfold matchF at e
    exact tryG_none _ (fun j o h => by have := matchF_len xss f _ o h; simp at this; omega) _ o e
def firstL (xss : List (List Int)) : List Int := (matchB xss).getD []
def firstB (xss : List (List Int)) : Bool := (matchB xss).isSome
theorem firstL_bd (xss : List (List Int)) (b : Bd_IntSS xss) : Bd_IntS (firstL xss) := by
  unfold firstL matchB Bd_IntS
  split
  · cases h : matchF xss xss.length [] with
    | none => simp
    | some o => have := matchF_len xss _ _ _ h; have := b.1; simp at *; omega
  · simp
theorem ownI_emp' {W : World} {base b : Nat} {e : TypeId} (hb : W.heap.size = b) (h : base ≤ b) : OwnI (W.alloc (.cells #[] e)) base e (.slice (some ⟨b, 0, none⟩) 0 0) [] := by
  subst hb
  exact own_lit W base e 1 #[] 0 h (Nat.zero_le _) rfl
theorem choice_len {xss : List (List Int)} (h : choiceB xss = true) : xss.length ≤ 4 := by
  unfold choiceB at h
  rw [Bool.and_eq_true] at h
  have := inB_iff.1 h.1
  omega
set_option maxHeartbeats 800000 in
theorem s_FirstMatching (xss : List (List Int)) (v : Value) (w : World) (h : RdSS w v xss) (b : Bd_IntSS xss) (_ : I64_IntSS xss) : Calls Try.prog 62 #[v] w (RetL2 w (firstL xss) (firstB xss)) := by
  have HA := hd h
  have HB := hd b
  clear h b
  obtain ⟨q, hq⟩ : ∃ q, choiceB xss = q := ⟨_, rfl⟩
  have HQ := hd hq
  have H4 : Hid (q = true → _) := hd (fun e => choice_len (hq.trans e))
  clear hq
  go_enter Try.func62, Try.ntmps62
  go_wp2_with fail
  refine (rtq (s_l28Choice xss v _ HA.out (by have := HB.out.1; omega) HB.out.hid) HQ).mono ?_
  rintro e w1 ⟨rfl, n, rfl⟩
  cases q
  · go_wp2
    go_ret2
    exact RetL2.mk (by unfold firstB matchB; rw [HQ.out]; rfl) (by unfold firstL matchB; rw [HQ.out]; exact ownI_emp' (by simp) (Nat.le_refl _)) ((ext_drewN _ _).alloc _)
  · have hl4 := H4.out rfl
    have HN : Hid (OwnI ((w.drewN n).alloc (.cells #[] 3)) w.heap.size 3 (.slice (some ⟨w.heap.size, 0, none⟩) 0 0) []) := hd (ownI_emp' (by simp) (Nat.le_refl _))
    have HX : Hid (Ext w ((w.drewN n).alloc (.cells #[] 3))) := hd ((ext_drewN _ _).alloc _)
    go_wp2_with fail
    refine (s_l28Match xss v hl4 HB.out.hid xss.length [] _ _ (by simp) (HA.out.ext HX.out) HN.out.rd).mono ?_
    rintro e w2 ⟨u, rfl, hu, hx2⟩
    go_wp2
    go_ret2
    exact RetL2.mk (by unfold firstB matchB; rw [HQ.out]; rfl) (by unfold firstL matchB; rw [HQ.out]; exact own_rebase hu HX.out.size) (HX.out.trans hx2)
set_option maxHeartbeats 800000 in
theorem i_FirstMatching (xss : List (List Int)) (v : Value) (w : World) (h : RdSS w v xss) (b : Bd_IntSS xss) (_ : I64_IntSS xss) : Calls Try.prog 63 #[v] w (RetL2 w (firstL xss) (firstB xss)) := by
  have HA := hd h
  have HB := hd b
  clear h b
  obtain ⟨q, hq⟩ : ∃ q, choiceB xss = q := ⟨_, rfl⟩
  have HQ := hd hq
  have H4 : Hid (q = true → _) := hd (fun e => choice_len (hq.trans e))
  clear hq
  go_enter Try.func63, Try.ntmps63
  go_wp2_with fail
  refine (rt (i_IsChoice xss v _ HA.out (by have := HB.out.1; omega) HB.out.hid) HQ).mono ?_
  rintro e w1 ⟨rfl, rfl⟩
  cases q
  · go_wp2
    go_ret2
    exact RetL2.mk (by unfold firstB matchB; rw [HQ.out]; rfl) (by unfold firstL matchB; rw [HQ.out]; exact ownI_nil _ _ _) (Ext.refl _)
  · have hl4 := H4.out rfl
    go_wp2_with fail
    refine (i_match xss v hl4 HB.out.hid xss.length [] _ _ w.heap.size (by simp) HA.out (ownI_nil _ _ _) (Nat.le_refl _)).mono ?_
    rintro e w2 ⟨u, rfl, hu, hx2⟩
    go_wp2
    go_ret2
    exact RetL2.mk (by unfold firstB matchB; rw [HQ.out]; rfl) (by unfold firstL matchB; rw [HQ.out]; exact hu) hx2
end Go.Proofs.Ytegaablidoibdaa
