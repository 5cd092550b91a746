import Derived.Test.YtbdcomkbpapcaaaMg5
import Derived.Test.YtbdcomkbpapcaaaFamZ
/-
  DefiningCnf, the reference's side: the clause of literals in any order (spec.l2Join with one literal, spec.l2Of). Conditions: numbers within 1000, at most 2^10 literals.
-/

namespace Go.Proofs.Ytbdcomkbpapcaaa
open Go.RowKit Go.Sort Seed
set_option maxRecDepth 100000 in
set_option maxHeartbeats 1600000 in
theorem s_l2PutN (x : Int) (w : World) : Calls Try.prog 114 #[.slice none 0 0, .int .i64 x] w (RetI w 3 [x]) := by
  have R1 : Hid (RdI w (.slice none 0 0) []) := hd (Rd.nil w 1)
  go_enter Try.func114, Try.ntmps114
  go_wp2
  go_loop [5] (fun i => i = .int .i64 0) (fun _ => 0)
  case atStart => rfl
  case round =>
    subst hrel
    go_wp2_with fail
    obtain ⟨wo, rfl⟩ : ∃ wo : World, wo = w := ⟨_, rfl⟩
    go_region_held3 (fun w' => Ext wo w') (first | assumption | exact Ext.refl _ | (repeat (first | assumption | exact Ext.refl _ | apply Ext.drew | refine Ext.alloc ?_ _)))
      (first
        | (go_simp; go_at_call 144; refine (s_l1Own [] _ _ (R1.out.ext (by go_split_ands; assumption)) (by simp)).mono ?_
           rintro e w1 ⟨u1, rfl, hu1, hx1⟩
           have X1 : Ext wo w1 := Ext.trans (by go_split_ands; assumption) hx1
           have ho1 : OwnI w1 wo.heap.size 3 u1 [] := own_rebase hu1 (by first | (simp; done) | exact Ext.size (by go_split_ands; assumption)))
        | (refine stepSI _ (v := u1) (src := .slice (some ⟨_, 0, none⟩) 1 1) (xs := []) (ys := [x]) (base := wo.heap.size) ?_ ?_ rfl (.tmp 25) (.tmp 27) rfl (by rfl) (by rfl) (by simp) (by first | exact X1.size | exact (X1.alloc _).size) ?_
           · first | exact ho1 | exact own_ext ho1 (Ext.new _ _)
           · first | exact rdI_at (heap_n1 _ _) | exact rdI_at (hx1.heap (heap_n1 _ _)) | exact rdI_at (hx1.heap (Ext.heap (Ext.refl _).drew (heap_n1 _ _)))
           intro u2 w2 ho2 hg2 hb2
           have X2 : Ext wo w2 := ext_appS (by first | exact X1 | exact X1.alloc _) hg2 (fun g hg => ownI_ge ho1 g hg))
        | (refine stepSI _ (v := u2) (src := .slice none 0 0) (xs := [] ++ [x]) (ys := []) (base := wo.heap.size) ho2 (Rd.nil _ _) rfl (.tmp 28) (.tmp 31) rfl (by rfl) (by rfl) (by simp) X2.size ?_
           intro u3 w3 ho3 hg3 hb3
           have X3 : Ext wo w3 := ext_appS X2 hg3 (fun g hg => ownI_ge ho2 g hg)))
    all_goals
      go_wp2
      go_ret
      exact ⟨_, rfl, by simpa using ho3, X3⟩
theorem s_l2PutO (l : List Int) (v : Value) (x : Int) (w : World) (lo : Nat) (h : OwnI w lo 3 v l) (hl : l.length ≤ 1048576) (hb : Hid (∀ y ∈ l, -1000 ≤ y ∧ y ≤ 1000)) (hx : -1000 ≤ x ∧ x ≤ 1000) :
    Calls Try.prog 114 #[v, .int .i64 x] w (RetI w 3 (putA l x)) := by
  rcases own_form h with ⟨rfl, hn, -⟩ | ⟨g, c, rfl, -⟩
  · obtain rfl : l = [] := List.eq_nil_of_length_eq_zero hn
    exact s_l2PutN x w
  · exact s_l2Put l _ c x w h.rd hl hb hx
theorem joinO_some {a c : List Int} {l : Int} (h : joinO (some a) l = some c) : hasI a (-l) = false ∧ c = (if hasI a l then a else putA a l) := by
  unfold joinO at h
  simp only at h
  split at h
  · cases h
  · rename_i h1
    refine ⟨by simpa using h1, ?_⟩
    split at h
    · rename_i h2; rw [if_pos h2]; exact (Option.some.inj h).symm
    · rename_i h2; rw [if_neg h2]; exact (Option.some.inj h).symm
theorem joinO_none {a : List Int} {l : Int} (h : joinO (some a) l = none) : hasI a (-l) = true := by
  unfold joinO at h
  simp only at h
  split at h
  · assumption
  · split at h <;> cases h
theorem joinO_in {a c : List Int} {l : Int} (h : joinO (some a) l = some c) : c.length ≤ a.length + 1 ∧ ∀ y ∈ c, y ∈ a ∨ y = l := by
  obtain ⟨-, rfl⟩ := joinO_some h
  split
  · exact ⟨by omega, fun y hy => .inl hy⟩
  · refine ⟨by rw [(putA_perm a l).length_eq]; simp, fun y hy => ?_⟩
    rcases List.mem_cons.1 ((putA_perm a l).mem_iff.1 hy) with h | h
    · exact .inr h
    · exact .inl h
/-- A clause of the call's own, or none. -/
def RetJ (w : World) : Option (List Int) → Ending → World → Prop
  | some c => fun e w' => ∃ u, e = .returned (.tuple #[u, .bool true]) ∧ OwnI w' w.heap.size 3 u c ∧ Ext w w'
  | none => fun e w' => ∃ u, e = .returned (.tuple #[u, .bool false]) ∧ Ext w w'
set_option maxRecDepth 100000 in
set_option maxHeartbeats 1600000 in
theorem s_l2Join (a : List Int) (v vb : Value) (l : Int) (w : World) (lo : Nat) (hv : OwnI w lo 3 v a) (hb : RdI w vb [l]) (hl : a.length ≤ 1000) (hab : Hid (∀ y ∈ a, -1000 ≤ y ∧ y ≤ 1000)) (hlb : -1000 ≤ l ∧ l ≤ 1000) :
    Calls Try.prog 127 #[v, vb] w (RetJ w (joinO (some a) l)) := by
  have HV := hd hv
  have HB := hd hb
  obtain ⟨A1, c1, rfl, -⟩ := hv.rd.form
  obtain ⟨A2, c2, rfl, h21, h22, ha2⟩ := hb.form
  clear hv hb
  cases hj : joinO (some a) l with
  | none =>
    have HQ := hd (joinO_none hj)
    clear hj
    go_enter Try.func127, Try.ntmps127
    go_wp2_with fail
    refine (s_l1Own a _ w HV.out.rd (by omega)).mono ?_
    rintro e w1 ⟨u1, rfl, hu1, hx1⟩
    have HO := hd hu1
    have HX := hd hx1
    have HA := hd (ha2.out.ext hx1)
    obtain ⟨a', ha', hc⟩ := RdI.at_ HA (k := 0) (by simp)
    subst ha'
    have hw : IntKind.i64.wrap (-l) = -l := IntWalk.i64_in _ (by omega)
    rw [show ([l] : List Int)[0] = l from rfl, show a'.add 0 = a' from by simp [Addr.add]] at hc
    clear hu1 hx1
    go_wp2
    go_loop [6, 7] (fun o i => o = u1 ∧ i = .int .i64 0) (fun _ _ => 0)
    case atStart => exact ⟨rfl, rfl⟩
    case round =>
      obtain ⟨rfl, rfl⟩ := hrel
      go_wp2_with fail
      refine (rt (s_l2Has a _ (-l) _ HO.out.rd (by omega)) HQ).mono ?_
      rintro e w2 ⟨rfl, rfl⟩
      go_wp2
      go_ret2
      exact ⟨_, rfl, HX.out.alloc _⟩
  | some c =>
    obtain ⟨hq1, hce⟩ := joinO_some hj
    have HQ1 := hd hq1
    obtain ⟨q, hq⟩ : ∃ q, hasI a l = q := ⟨_, rfl⟩
    have HQ2 := hd hq
    rw [hq] at hce
    have HCE := hd hce
    clear hj hq1 hq hce
    go_enter Try.func127, Try.ntmps127
    go_wp2_with fail
    refine (s_l1Own a _ w HV.out.rd (by omega)).mono ?_
    rintro e w1 ⟨u1, rfl, hu1, hx1⟩
    have HO := hd hu1
    have HX := hd hx1
    clear hu1 hx1
    go_wp2
    go_loopw [6, 7] (fun ov i wr => ∃ k : Nat, k ≤ 1 ∧ i = .int .i64 (k : Int) ∧ OwnI wr w.heap.size 3 ov (if k = 0 then a else c) ∧ Ext w wr) (fun _ i _ => 1 - (intOf i).toNat)
    case atStart => exact ⟨0, by omega, rfl, HO.out, HX.out⟩
    case round =>
      clear HO HX
      obtain ⟨k, hk, rfl, ho, hx⟩ := hrel
      have HX := hd hx
      by_cases hlt : k < 1
      · rw [if_pos (show k = 0 by omega)] at ho
        have HO := hd ho
        have HA := hd (ha2.out.ext hx)
        obtain ⟨a', ha', hc⟩ := RdI.at_ HA (k := k) (by simpa using hlt)
        subst ha'
        rw [show ([l] : List Int)[k] = l from by simp] at hc
        have hw : IntKind.i64.wrap (-l) = -l := IntWalk.i64_in _ (by omega)
        clear ho hx
        go_wp2_with fail
        refine (rt (s_l2Has a _ (-l) _ HO.out.rd (by omega)) HQ1).mono ?_
        rintro e w2 ⟨rfl, rfl⟩
        go_wp2_with fail
        refine (rt (s_l2Has a _ l _ HO.out.rd (by omega)) HQ2).mono ?_
        rintro e w2 ⟨rfl, rfl⟩
        cases q
        · go_wp2_with fail
          refine (s_l2PutO a _ l _ _ HO.out (by omega) hab hlb).mono ?_
          rintro e w3 ⟨u3, rfl, hu3, hx3⟩
          go_wp2
          go_roundw
          case rel => exact ⟨k + 1, by omega, by go_num, by rw [if_neg (by omega), HCE.out]; exact own_rebase hu3 HX.out.size, HX.out.trans hx3⟩
          case measure => simp [intOf]; omega
        · go_wp2
          go_roundw
          case rel => exact ⟨k + 1, by omega, by go_num, by rw [if_neg (by omega), HCE.out]; exact HO.out, HX.out⟩
          case measure => simp [intOf]; omega
      · rw [if_neg (show ¬ k = 0 by omega)] at ho
        have HO := hd ho
        clear ho hx
        go_wp2
        go_ret2
        exact ⟨_, rfl, HO.out, HX.out⟩
theorem clO_take {xs : List Int} {k : Nat} (h : k < xs.length) : (xs.take (k + 1)).foldl joinO (some []) = joinO ((xs.take k).foldl joinO (some [])) xs[k] := by
  rw [List.take_succ_eq_append_getElem h, List.foldl_append]; rfl
theorem clO_none (xs : List Int) : xs.foldl joinO none = none := by
  induction xs with
  | nil => rfl
  | cons x r ih => exact ih
theorem clO_stop {xs : List Int} {k : Nat} (h : (xs.take k).foldl joinO (some []) = none) : clO xs = none := by
  unfold clO
  rw [← List.take_append_drop k xs, List.foldl_append, h, clO_none]
set_option maxRecDepth 100000 in
set_option maxHeartbeats 1600000 in
theorem s_l2Of (xs : List Int) (v : Value) (w : World) (h : RdI w v xs) (hl : xs.length ≤ 1000) (hb : Hid (∀ y ∈ xs, -1000 ≤ y ∧ y ≤ 1000)) : Calls Try.prog 91 #[v] w (RetJ w (clO xs)) := by
  obtain ⟨A, c, rfl, h1, h2, ha⟩ := h.form
  have HST := hd (fun k (hk : k < xs.length) => clO_take hk)
  have HNO := hd (fun k (hk : (xs.take k).foldl joinO (some []) = none) => clO_stop hk)
  have HFI : Hid ((xs.take xs.length).foldl joinO (some []) = clO xs) := hd (by rw [List.take_length]; rfl)
  have E0 : Hid (OwnI (w.alloc (.cells #[] 3)) w.heap.size 3 (.slice (some ⟨w.heap.size, 0, none⟩) 0 0) []) := hd (ownI_lit0 (Nat.le_refl _))
  clear h
  go_enter Try.func91, Try.ntmps91
  go_wp2
  go_loopw [4, 5] (fun ov i wr => ∃ (k : Nat) (out : List Int), k ≤ xs.length ∧ i = .int .i64 (k : Int) ∧ (xs.take k).foldl joinO (some []) = some out ∧ out.length ≤ k ∧ Hid (∀ y ∈ out, -1000 ≤ y ∧ y ≤ 1000) ∧ OwnI wr w.heap.size 3 ov out ∧ Ext w wr) (fun _ i _ => xs.length - (intOf i).toNat)
  case atStart => exact ⟨0, [], by omega, rfl, rfl, by simp, hd (fun y hy => by cases hy), E0.out, Ext.new _ _⟩
  case round =>
    clear E0
    obtain ⟨k, out, hk, rfl, hf, hol, HOB, ho, hx⟩ := hrel
    have HF := hd hf
    have HO := hd ho
    have HX := hd hx
    clear hf ho hx
    by_cases hlt : k < xs.length
    · obtain ⟨a, rfl, hc⟩ := RdI.at_ ha hlt
      replace hc := HX.out.cell hc
      have hlb := hb.out _ (List.getElem_mem hlt)
      have hst := HST.out k hlt
      rw [HF.out] at hst
      generalize xs[k] = l at *
      have HLIT : Hid (RdI (wr.alloc (.cells #[.int .i64 l] 3)) (.slice (some ⟨wr.heap.size, 0, none⟩) 1 1) [l]) := hd (rdI_at (heap_n1 _ _))
      have HOA := hd (HO.out.ext (Ext.new wr (.cells #[.int .i64 l] 3)))
      have HNK := hd (HNO.out (k + 1))
      have HST1 := hd hst
      clear hst
      cases hj : joinO (some out) l with
      | none =>
        have HN : Hid (clO xs = none) := hd (HNK.out (by rw [HST1.out, hj]))
        have HJ := hd hj
        clear hj
        go_wp2_with fail
        refine (s_l2Join out _ _ l _ _ HOA.out HLIT.out (by omega) HOB hlb).mono ?_
        rw [HJ.out]
        rintro e w3 ⟨u3, rfl, hx3⟩
        go_wp2
        rw [HN.out]
        go_ret2
        exact ⟨_, rfl, (HX.out.trans ((Ext.new _ _).trans hx3)).alloc _⟩
      | some c2 =>
        obtain ⟨i1, i2⟩ := joinO_in hj
        have HJ := hd hj
        rw [hj] at HST1
        have HI2 := hd i2
        clear hj i2
        go_wp2_with fail
        refine (s_l2Join out _ _ l _ _ HOA.out HLIT.out (by omega) HOB hlb).mono ?_
        rw [HJ.out]
        rintro e w3 ⟨u3, rfl, hu3, hx3⟩
        go_wp2
        go_roundw
        case rel => exact ⟨k + 1, c2, by omega, by go_num, HST1.out, by omega, hd (fun y hy => by rcases HI2.out y hy with h | h; exact HOB.out y h; subst h; exact hlb), own_rebase hu3 (by have := HX.out.size; simp; omega), HX.out.trans ((Ext.new _ _).trans hx3)⟩
        case measure => simp [intOf]; omega
    · obtain rfl : k = xs.length := by omega
      have HN : Hid (clO xs = some out) := hd (by rw [← HFI.out, HF.out])
      go_wp2
      rw [HN.out]
      go_ret2
      exact ⟨_, rfl, HO.out, HX.out⟩
end Go.Proofs.Ytbdcomkbpapcaaa
