/-
  ClauseWeight of both sides. Condition: sizes up to 2^20.
-/
import Derived.Test.YtpljmlkinjhigaaCount
import Derived.Test.YtpljmlkinjhigaaPut
import Derived.Maps.OwnSet
import Derived.Maps.Views
import Derived.Carry
namespace Go.Proofs.Ytpljmlkinjhigaa
open Go.RowKit Go.Maps

def addI (acc : List Int) (x : Int) : List Int := if acc.contains x then acc else acc ++ [x]
theorem addI_mem (acc : List Int) (x z : Int) : z ∈ addI acc x ↔ z = x ∨ z ∈ acc := by
  unfold addI
  split
  · rename_i h
    rw [List.contains_iff_mem] at h
    constructor
    · exact .inr
    · rintro (rfl | h2)
      · exact h
      · exact h2
  · simp [or_comm]
theorem addI_len (acc : List Int) (x : Int) : (addI acc x).length = if x ∈ acc then acc.length else acc.length + 1 := by
  unfold addI
  by_cases h : x ∈ acc
  · rw [if_pos (List.contains_iff_mem.2 h), if_pos h]
  · rw [if_neg (fun e => h (List.contains_iff_mem.1 e)), if_neg h]; simp
/-- Put into an ascending list, or at the end if new: as many. -/
theorem fold_len : ∀ (ks P acc : List Int), Sor P → (∀ z, z ∈ P ↔ z ∈ acc) → P.length = acc.length → (ks.foldl putI P).length = (ks.foldl addI acc).length
  | [], P, acc, _, _, h => h
  | x :: r, P, acc, hs, hm, h => by
    refine fold_len r _ _ (putI_sor P x hs) (fun z => by rw [putI_mem, addI_mem, hm z]) ?_
    rw [putI_len P x hs, addI_len, h]
    by_cases hx : x ∈ P
    · rw [if_pos hx, if_pos ((hm x).1 hx)]
    · rw [if_neg hx, if_neg (fun e => hx ((hm x).2 e))]
theorem fold_key : ∀ (ks acc : List Int), (ks.map (Lit.int .i64)).foldl addKey (acc.map (Lit.int .i64)) = (ks.foldl addI acc).map (Lit.int .i64)
  | [], acc => rfl
  | x :: r, acc => by
    have e : addKey (acc.map (Lit.int .i64)) (Lit.int .i64 x) = (addI acc x).map (Lit.int .i64) := by
      have h : (acc.map (Lit.int .i64)).any (fun y => y.sameKey (Lit.int .i64 x)) = acc.contains x := by
        rw [Bool.eq_iff_iff, List.any_eq_true, List.contains_iff_mem]
        constructor
        · rintro ⟨y, hy, h⟩
          obtain ⟨a, ha, rfl⟩ := List.mem_map.1 hy
          have h2 : a = x := by simpa [Lit.sameKey] using h
          rw [← h2]; exact ha
        · intro h
          exact ⟨_, List.mem_map.2 ⟨x, h, rfl⟩, by simp [Lit.sameKey]⟩
      unfold addKey addI
      rw [h]
      split <;> simp
    simp only [List.map_cons, List.foldl_cons, e]
    exact fold_key r _
/-- The pigeons of the numbers of X that make c false. -/
def pgK (m : Nat) (c X : List Int) : List Int := (falseL c X).map fun b => ((critS m b.toNat : Nat) : Int)
def pgP (m : Nat) (c X : List Int) : List Int := (pgK m c X).foldl putI []
theorem falseL_snoc {c X : List Int} {b : Int} : falseL c (X ++ [b]) = if trueB b.toNat c then falseL c X else falseL c X ++ [b] := by
  unfold falseL
  rw [List.filter_append]
  cases h : trueB b.toNat c <;> simp [h]
theorem pgP_yes {m : Nat} {c X : List Int} {j : Nat} (h : trueB j c = false) : pgP m c (X ++ [(j : Int)]) = putI (pgP m c X) (critS m j : Nat) := by
  unfold pgP pgK
  rw [falseL_snoc, Int.toNat_natCast, h]
  simp
theorem pgP_no {m : Nat} {c X : List Int} {j : Nat} (h : trueB j c = true) : pgP m c (X ++ [(j : Int)]) = pgP m c X := by
  unfold pgP pgK
  rw [falseL_snoc, Int.toNat_natCast, h]
  simp
theorem foldP_len : ∀ (ks P : List Int), (ks.foldl putI P).length ≤ P.length + ks.length
  | [], P => by simp
  | x :: r, P => by have := foldP_len r (putI P x); have := putI_le P x; simp only [List.foldl_cons, List.length_cons]; omega
theorem pgP_len (m : Nat) (c X : List Int) : (pgP m c X).length ≤ X.length := by
  unfold pgP
  have := foldP_len (pgK m c X) []
  have h2 := falseL_len c X
  simp [pgK] at this ⊢
  omega
def weightN (n : Int) (c : List Int) : Int := if takesB n c then ((pgP n.toNat c (critNN n)).length : Int) else 0
set_option maxRecDepth 100000 in
set_option maxHeartbeats 1600000 in
theorem s_l28Weight (m : Nat) (c L : List Int) (v lv : Value) (w : World) (hm : 1 ≤ m ∧ m ≤ 3) (hv : RdI w v c) (hl : c.length ≤ 1048576) (hlit : Hid (∀ x ∈ c, -12 ≤ x ∧ x ≤ 12 ∧ x ≠ 0)) (hlv : RdI w lv L) (hlen : L.length ≤ 4096) (hme : Hid (∀ x ∈ L, ∃ b : Nat, x = b ∧ b < 4096 ∧ 0 < critS m b)) :
    Calls Try.prog 84 #[.int .i64 m, v, lv] w (RetX w (.int .i64 ((pgP m c L).length : Nat))) := by
  have HV := hd hv
  obtain ⟨A3, c3, rfl, h31, h32, HU⟩ := hlv.form
  clear hv hlv
  go_enter Try.func84, Try.ntmps84
  go_wp2
  go_loopw [8, 7] (fun i pv wr => ∃ k : Nat, k ≤ L.length ∧ i = .int .i64 k ∧ OwnI wr w.heap.size 3 pv (pgP m c (L.take k)) ∧ Ext w wr) (fun i _ _ => L.length - (intOf i).toNat)
  case atStart => exact ⟨0, by omega, rfl, ownI_emp' (by simp) (Nat.le_refl _), Ext.new _ _⟩
  case round =>
    obtain ⟨k, hk, rfl, ho, hx⟩ := hrel
    have HX := hd hx
    have HO := hd ho
    have hpl : (pgP m c (L.take k)).length ≤ 4096 := by have := pgP_len m c (L.take k); simp at this; omega
    clear hx ho
    by_cases hlt : k < L.length
    · obtain ⟨a, rfl, hc0⟩ := RdI.at_ HU hlt
      have hc := HX.out.cell hc0
      obtain ⟨j, hj, hjn, -⟩ := hme.out _ (List.getElem_mem hlt)
      have HT : Hid (L.take (k + 1) = L.take k ++ [(j : Int)]) := hd (by rw [List.take_succ_eq_append_getElem hlt, hj])
      rw [hj] at hc
      clear hj hc0
      obtain ⟨q, hq⟩ : ∃ q, trueB j c = q := ⟨_, rfl⟩
      have HQ := hd hq
      clear hq
      go_wp2_with fail
      refine (s_l5True j c v _ (HV.out.ext HX.out) (by omega) hlit (by omega)).mono ?_
      rw [HQ.out]
      rintro e w2 ⟨rfl, k2, rfl⟩
      cases q
      · have HP := hd (pgP_yes (m := m) (X := L.take k) HQ.out)
        have O2 := hd (HO.out.ext (ext_drewN wr k2))
        go_wp2_with fail
        refine (s_l28Critical m j _ hm hjn).mono ?_
        rintro e w2 ⟨rfl, rfl⟩
        go_wp2_with fail
        refine (s_l1Put (pgP m c (L.take k)) _ _ _ w.heap.size O2.out (by omega) HX.out.size).mono ?_
        rintro e w3 ⟨u3, rfl, hu3, hx3⟩
        go_wp2
        go_roundw
        case rel => exact ⟨k + 1, by omega, by go_num, by rw [HT.out, HP.out]; exact hu3, (HX.out.drewN _).trans hx3⟩
        case measure => simp [intOf]; omega
      · have HP := hd (pgP_no (m := m) (X := L.take k) HQ.out)
        go_wp2
        go_roundw
        case rel => exact ⟨k + 1, by omega, by go_num, by rw [HT.out, HP.out]; exact HO.out.ext (ext_drewN _ _), HX.out.drewN _⟩
        case measure => simp [intOf]; omega
    · have HT : Hid (L.take k = L) := hd (List.take_of_length_le (by omega))
      rw [HT.out] at HO
      obtain ⟨A4, c4, rfl, -⟩ := HO.out.form
      go_wp2
      go_ret
      exact RetX.mk rfl HX.out
set_option maxRecDepth 100000 in
set_option maxHeartbeats 1600000 in
theorem s_ClauseWeight (n : Int) (c : List Int) (v : Value) (w : World) (_ : I64 n) (h : RdI w v c) (b : Bd_IntS c) (_ : I64_IntS c) :
    Calls Try.prog 35 #[.int .i64 n, v] w (RetX w (.tuple #[.int .i64 (weightN n c), .bool (takesB n c)])) := by
  have HV := hd h
  have HB := hd b
  clear h b
  obtain ⟨q, hq⟩ : ∃ q, takesB n c = q := ⟨_, rfl⟩
  have HQ := hd hq
  have HI := hd (fun e => takes_inv (hq.trans e) : q = true → _)
  clear hq
  go_enter Try.func35, Try.ntmps35
  go_wp2_with fail
  refine (s_l28Takes n c v _ HV.out HB.out).mono ?_
  rw [HQ.out]
  rintro e w1 ⟨rfl, k, rfl⟩
  cases q
  · go_wp2
    go_ret2
    exact RetX.mk (by unfold weightN; rw [HQ.out]; rfl) (ext_drewN _ _)
  · obtain ⟨⟨m, rfl, hm⟩, hlit⟩ := HI.out (by simp)
    have HLIT := hd hlit
    clear hlit HI
    go_wp2_with fail
    refine (s_l28All m _ hm).mono ?_
    rintro e w1 ⟨u, rfl, hu, hx1⟩
    have HL : Hid (critNN (m : Int) = allL m (2 ^ (m * (m + 1)))) := hd (by unfold critNN; rw [Int.toNat_natCast])
    rw [← HL.out] at hu
    have X1 := hd ((ext_drewN w k).trans hx1)
    have hlen := critNN_len hm
    have HME := hd (fun x hx => critNN_mem hm (x := x) hx)
    have HU := hd hu.rd
    have HF : Hid (weightN (m : Int) c = ((pgP m c (critNN (m : Int))).length : Int)) := hd (by unfold weightN; rw [HQ.out, if_pos rfl, Int.toNat_natCast])
    clear hu hx1
    go_wp2_with fail
    refine (s_l28Weight m c (critNN (m : Int)) v u _ hm (HV.out.ext X1.out) HB.out HLIT HU.out hlen HME).mono ?_
    rintro e w2 ⟨rfl, hx2⟩
    go_wp2
    go_ret2
    exact RetX.mk (by rw [HF.out, HQ.out]; rfl) (X1.out.trans hx2)
theorem falseL_left {m : Nat} (hm : 1 ≤ m ∧ m ≤ 3) {c : List Int} {x : Int} (hx : x ∈ falseL c (critNN (m : Int))) : ∃ b : Nat, x = b ∧ b < 4096 ∧ leftI m b = critS m b := by
  have hx' := (List.mem_filter.1 hx).1
  unfold critNN at hx'
  rw [Int.toNat_natCast] at hx'
  obtain ⟨b, h1, h2, _⟩ := allL_mem hx'
  have h3 := left_eq hm h2
  obtain ⟨mm, P, e1, e2, _, _, _, _, _, hP2⟩ := nn_facts hm
  rw [← e1, ← e2] at h2
  exact ⟨b, h1, Nat.lt_of_lt_of_le h2 hP2, h3⟩
set_option maxRecDepth 100000 in
set_option maxHeartbeats 1600000 in
theorem i_weight (m : Nat) (c : List Int) (v : Value) (w : World) (hm : 1 ≤ m ∧ m ≤ 3) (h : RdI w v c) (hl : c.length ≤ 1048576) (hlit : Hid (∀ x ∈ c, -12 ≤ x ∧ x ≤ 12 ∧ x ≠ 0)) :
    Calls Try.prog 85 #[.int .i64 m, v] w (RetX w (.int .i64 ((pgP m c (critNN (m : Int))).length : Nat))) := by
  have HV := hd (RdI.ext h (Ext.new w (.map #[] 0)))
  have hmm := @run_makeMap Try.prog
  have HFL : Hid ((falseL c (critNN (m : Int))).length ≤ 4096) := hd (Nat.le_trans (falseL_len _ _) (critNN_len hm))
  have HME : Hid (∀ x ∈ falseL c (critNN (m : Int)), ∃ b : Nat, x = b ∧ b < 4096 ∧ leftI m b = critS m b) := hd fun x hx => falseL_left hm hx
  have HFIN : Hid ((pgP m c (critNN (m : Int))).length = ((pgK m c (critNN (m : Int))).foldl addI []).length) := hd (fold_len _ [] [] trivial (fun z => Iff.rfl) rfl)
  clear h
  go_enter Try.func85, Try.ntmps85
  go_wp2_with fail
  refine (i_falseCritical m c v _ hm HV.out hl hlit).mono ?_
  rintro e w1 ⟨u, rfl, hu, hx1⟩
  have HM1 : Hid (w1.ownsMap Try.prog 3 (plainElem (H := Unit) Try.prog 4) w.heap.size 0 (setOf (.lit (.bool true)) [])) := hd ((World.ownsMap_made w _ _ _).kept (grown_ext hx1 none) (by simp))
  have HX1 : Hid (Ext w w1) := hd (Ext.trans (Ext.new _ _) hx1)
  obtain ⟨A3, c3, rfl, HO1⟩ := hu.form
  have HLK : Hid (pgK m c (critNN (m : Int)) = (falseL c (critNN (m : Int))).map fun b => ((critS m b.toNat : Nat) : Int)) := hd rfl
  have hfl := HFL.out
  have hcs : ∀ b, critS m b ≤ 100 := fun b => critS_le m b hm.2
  have HCS := hd hcs
  have HS1 : Hid (w.heap.size < w1.heap.size) := hd (Nat.lt_of_lt_of_le (by simp) hx1.size)
  clear hu hx1 hcs hmm
  generalize falseL c (critNN (m : Int)) = FL at *
  go_wp2
  go_loopw [13, 7] (fun i _ wr => ∃ k : Nat, k ≤ FL.length ∧ i = .int .i64 k ∧ wr.ownsMap Try.prog 3 (plainElem (H := Unit) Try.prog 4) w.heap.size k (setOf (.lit (.bool true)) (((FL.take k).map fun b => ((critS m b.toNat : Nat) : Int)).map (Lit.int .i64))) ∧ OwnI wr (w.heap.size + 1) 3 (.slice A3 FL.length c3) FL ∧ Ext w wr) (fun i _ _ => FL.length - (intOf i).toNat)
  case atStart => exact ⟨0, by omega, rfl, HM1.out, own_rebase HO1.out (by simp), HX1.out⟩
  case round =>
    clear HM1 HO1 HX1
    obtain ⟨k, hk, rfl, hmap, ho, hx⟩ := hrel
    have HX := hd hx
    have HO := hd ho
    have HM := hd hmap
    clear hx ho hmap
    by_cases hlt : k < FL.length
    · obtain ⟨A, cc, e0, -, -, hr⟩ := HO.out.rd.form
      injection e0 with e1 _ e2
      subst e1; subst e2
      obtain ⟨a, rfl, hc⟩ := RdI.at_ hr hlt
      obtain ⟨j, hj, hjn, hle⟩ := HME.out _ (List.getElem_mem hlt)
      have HT : Hid (((FL.take (k + 1)).map fun b => ((critS m b.toNat : Nat) : Int)).map (Lit.int .i64) = ((FL.take k).map fun b => ((critS m b.toNat : Nat) : Int)).map (Lit.int .i64) ++ [Lit.int .i64 (critS m j : Nat)]) := hd (by rw [List.take_succ_eq_append_getElem hlt, hj]; simp)
      rw [hj] at hc
      have HLE := hd hle
      have hcs := HCS.out j
      have hkey : keyOf Try.prog 3 (.int .i64 (critS m j : Nat)) = some (.int .i64 (critS m j : Nat)) := keyOf_int_mk Try.underlying3 (by simp [Lit.wf, IntKind.min, IntKind.max, IntKind.signed, IntKind.bits]; omega)
      have HKEY := hd hkey
      clear hj hle hkey
      go_wp2_with fail
      refine (i_leftOf m j _ hm hjn).mono ?_
      rw [HLE.out]
      rintro e w2 ⟨rfl, hx2⟩
      have HM2 := hd (HM.out.kept (grown_ext hx2 none) (by simp))
      have HO2 := hd (HO.out.ext hx2)
      have HX2 := hd (HX.out.trans hx2)
      clear hx2 hc hr
      generalize critS m j = q at *
      go_wp2_with (at_mapUpdate; refine wpList_mapUpdate_own _ rfl _ _ _ 125 rfl 3 4 (int_keyed Try.underlying3) Try.underlying125 _ w.heap.size k _ rfl HM2.out (by unfold maxLen; omega) _ _ _ rfl rfl HKEY.out _ [] (plainElem_bool Try.underlying4 true) ?_; intro w3 hown3 hgrow3)
      go_roundw
      case rel => exact ⟨k + 1, by omega, by go_num, by rw [HT.out, setOf_snoc]; exact hown3, own_grown HO2.out hgrow3 (fun g h1 h2 => by have := ownI_ge HO2.out g h1; injection h2 with h2; omega), HX2.out.grown hgrow3 HX2.out.size (fun g hg => by injection hg with hg; omega)⟩
      case measure => simp [intOf]; omega
    · have HT : Hid (FL.take k = FL) := hd (List.take_of_length_le (by omega))
      rw [HT.out] at HM
      have HSZ : Hid ((size (setOf (H := Unit) (.lit (.bool true)) ((FL.map fun b => ((critS m b.toNat : Nat) : Int)).map (Lit.int .i64))) : Int) = ((pgP m c (critNN (m : Int))).length : Nat)) := hd (by
        rw [size_setOf _ _ (fun x hx => by obtain ⟨y, _, rfl⟩ := List.mem_map.1 hx; exact trivial), HFIN.out, HLK.out]
        have := fold_key (FL.map fun b => ((critS m b.toNat : Nat) : Int)) []
        rw [List.map_nil] at this
        rw [this, List.length_map])
      go_wp2_with (at_len; refine wpList_len_own _ rfl _ 125 rfl 3 4 Try.underlying125 _ w.heap.size k _ rfl HM.out ?_)
      go_ret
      exact RetX.mk (congrArg (Value.int .i64) (by have := HSZ.out; rw [List.map_map] at this; exact this)) HX.out
set_option maxRecDepth 100000 in
set_option maxHeartbeats 800000 in
theorem i_ClauseWeight (n : Int) (c : List Int) (v : Value) (w : World) (_ : I64 n) (h : RdI w v c) (b : Bd_IntS c) (_ : I64_IntS c) :
    Calls Try.prog 36 #[.int .i64 n, v] w (RetX w (.tuple #[.int .i64 (weightN n c), .bool (takesB n c)])) := by
  have HV := hd h
  have HB := hd b
  clear h b
  obtain ⟨q, hq⟩ : ∃ q, takesB n c = q := ⟨_, rfl⟩
  have HQ := hd hq
  have HI := hd (fun e => takes_inv (hq.trans e) : q = true → _)
  clear hq
  go_enter Try.func36, Try.ntmps36
  go_wp2_with fail
  refine (i_pigeonClause n c v _ HV.out HB.out).mono ?_
  rw [HQ.out]
  rintro e w1 ⟨rfl, k, rfl⟩
  cases q
  · go_wp2
    go_ret2
    exact RetX.mk (by unfold weightN; rw [HQ.out]; rfl) (ext_drewN _ _)
  · obtain ⟨⟨m, rfl, hm⟩, hlit⟩ := HI.out (by simp)
    have HLIT := hd hlit
    have HF : Hid (weightN (m : Int) c = ((pgP m c (critNN (m : Int))).length : Int)) := hd (by unfold weightN; rw [HQ.out, if_pos rfl, Int.toNat_natCast])
    clear hlit HI
    go_wp2_with fail
    refine (i_weight m c v _ hm (HV.out.ext (ext_drewN _ _)) HB.out HLIT).mono ?_
    rintro e w1 ⟨rfl, hx1⟩
    go_wp2
    go_ret2
    exact RetX.mk (by rw [HF.out, HQ.out]; rfl) ((ext_drewN w k).trans hx1)
end Go.Proofs.Ytpljmlkinjhigaa
