import Derived.Test.YtbdcomkbpapcaaaMg3
import Derived.Test.YtbdcomkbpapcaaaSortF
import Derived.Shelf.SlSortCmp.NoneTotal
/-
  impl.clause and impl.mustClause at literals of different variables. Conditions: numbers within 1000, at most 2^20 of them.
-/

namespace Go.Proofs.Ytbdcomkbpapcaaa
open Go.RowKit Go.Sort
theorem ltLit {x y : Int} : ltOf litI x y = true ↔ absW x < absW y ∨ (absW x = absW y ∧ y < x) := by
  unfold ltOf
  rw [decide_eq_true_eq, litI_lt]
theorem ltLit_no {x y : Int} : ltOf litI x y = false ↔ ¬ (absW x < absW y ∨ (absW x = absW y ∧ y < x)) := by rw [← ltLit, Bool.not_eq_true]
theorem litI_swo : SWO (ltOf litI) := by
  refine ⟨fun x => ?_, fun x y z h1 h2 => ?_, fun x y z h1 h2 => ?_⟩
  · rw [ltLit_no]; omega
  · rw [ltLit] at *; omega
  · rw [ltLit_no] at *; omega
theorem litI_tot (x y : Int) (h1 : ltOf litI x y = false) (h2 : ltOf litI y x = false) : x = y := by
  rw [ltLit_no] at h1 h2; omega
def leLit (x y : Int) : Bool := !ltOf litI y x
theorem enters_compareLiterals : ∀ args w, (callFunc 101 args).run Try.prog w = .ok (.enter 101 args) w := fun args w => by kernel_rfl
theorem lays_compareLiterals (blk off size : Nat) (w : World) : CmpLays1 Try.prog 101 #[] (Value.int .i64) litI blk off size w := fun _ _ _ _ x y => i_compareLiterals x y _
theorem slices_SortLit (xs : List Int) (v : Value) (w : World) (lo : Nat) (h : OwnI w lo 3 v xs) (hl : xs.length ≤ 1073741824) :
    Calls Try.prog 100 #[v, .func (.func 101) #[] #[]] w (fun e w' => e = .returned (.tuple #[]) ∧ OwnI w' lo 3 v (xs.mergeSort leLit) ∧ w.grownBy w' v.ownBlock) := by
  have hlm : (xs.mergeSort leLit).length = xs.length := List.length_mergeSort xs
  have h0 := h
  rcases h.2 with ⟨rfl, hn⟩ | ⟨g, cap, cur, rfl, hb, hg, hnc, hcm, hcs, ht⟩
  · obtain rfl : xs = [] := List.eq_nil_of_length_eq_zero hn
    refine (AnyF.slices_SortFunc_none Try.sortFunc0 none 0 _ w).mono ?_
    rintro e w' ⟨rfl, rfl⟩
    exact ⟨rfl, by simpa using h0, grown_refl _ _⟩
  · have hH : Holds (Value.int .i64) w g 0 xs.toArray := holds_of_blockI hg (by simpa [ints] using ht)
    refine (Any.slices_SortFunc_total Try.sortFuncL (Value.int .i64) (fun _ => rfl) litI litI_swo 101 #[] g 0 cap xs.toArray w enters_compareLiterals (lays_compareLiterals _ _ _ _) hH (Array.getElem?_eq_some_iff.1 hg).1 (by simp; omega) litI_tot).mono ?_
    rintro e w' ⟨rfl, n, os, rfl⟩
    refine ⟨rfl, ?_, grownBy_sortedI _⟩
    have := ownsRow_sortedI (n := n) (os := os) (base := lo) hlm hb hg hnc hcm hcs
    unfold OwnI
    rw [hlm]
    exact this
theorem sort_lit {xs ys : List Int} (hp : ys.Perm xs) (hs : ys.Pairwise fun a b => absI a < absI b) (hb : ∀ x ∈ ys, -1000 ≤ x ∧ x ≤ 1000) : xs.mergeSort leLit = ys := by
  refine List.Perm.eq_of_pairwise (le := fun a b => leLit a b = true) (fun a b _ _ h1 h2 => ?_) ?_ ?_ ((List.mergeSort_perm xs leLit).trans hp.symm)
  · unfold leLit at h1 h2
    exact litI_tot a b (by simpa using h2) (by simpa using h1)
  · refine List.pairwise_mergeSort (fun a b c h1 h2 => ?_) (fun a b => ?_) xs
    · unfold leLit at *
      have h1' : ltOf litI b a = false := by simpa using h1
      have h2' : ltOf litI c b = false := by simpa using h2
      rw [litI_swo.ntrans c b a h2' h1']; rfl
    · unfold leLit
      cases h : ltOf litI b a with
      | false => rfl
      | true =>
        have : ltOf litI a b = false := by rw [ltLit] at h; rw [ltLit_no]; omega
        rw [this]; rfl
  · refine List.Pairwise.imp_of_mem ?_ hs
    intro a b ha hb' hlt
    have h1 := hb a ha
    have h2 := hb b hb'
    have : ltOf litI b a = false := by
      rw [ltLit_no, absW_eq (by omega), absW_eq (by omega)]; omega
    unfold leLit
    rw [this]; rfl
theorem compact_ne {ys : List Int} (h : ∀ k, k + 1 < ys.length → ys[k + 1]! ≠ ys[k]!) : Go.Lib.compact ys = ys := by
  unfold Go.Lib.compact Go.Lib.compactUpTo
  rw [List.filter_eq_self.2]
  · apply List.ext_getElem
    · simp
    · intro i h1 h2
      simp [h2]
  · intro j hj
    have hj := List.mem_range.1 hj
    unfold Go.Lib.keeps
    cases j with
    | zero => simp
    | succ k => have := h k hj; simpa using this
set_option maxHeartbeats 1600000 in
theorem i_clause (xs ys : List Int) (v : Value) (w : World) (h : RdI w v xs) (hl : xs.length ≤ 1048576) (hp : Hid (ys.Perm xs)) (hs : Hid (ys.Pairwise fun a b => absI a < absI b)) (hb : Hid (∀ x ∈ ys, -1000 ≤ x ∧ x ≤ 1000)) :
    Calls Try.prog 62 #[v] w (fun e w' => ∃ u, e = .returned (.tuple #[u, .bool true]) ∧ OwnI w' w.heap.size 3 u ys ∧ Ext w w') := by
  have HR := hd h
  have HS := hd (sort_lit hp.out hs.out hb.out)
  have HLT : Hid (∀ (k : Nat) (h1 : k + 1 < ys.length), absI ys[k] < absI ys[k + 1]) := hd fun k h1 => (List.pairwise_iff_getElem.1 hs.out) k (k + 1) (by omega) h1 (by omega)
  have HC := hd (compact_ne (ys := ys) fun k h1 e => by
    have := HLT.out k h1
    rw [getElem!_pos ys (k + 1) h1, getElem!_pos ys k (by omega)] at e
    rw [e] at this; omega)
  have hyl : ys.length ≤ 1048576 := by rw [hp.out.length_eq]; exact hl
  have hml : (xs.mergeSort leLit).length ≤ 1073741824 := by rw [List.length_mergeSort]; omega
  clear h
  go_enter Try.func62, Try.ntmps62
  go_wp2_with fail
  refine (slices_Clone xs _ _ HR.out (by omega)).mono ?_
  rintro e w1 ⟨u1, rfl, hu1, hx1⟩
  have O1 := hd hu1
  have X1 := hd hx1
  clear hu1 hx1
  go_wp2_with fail
  refine (slices_SortLit xs _ _ _ O1.out (by omega)).mono ?_
  rintro e w2 ⟨rfl, hu2, hg2⟩
  rw [HS.out] at hu2
  have O2 := hd hu2
  have X2 := hd (ext_appS X1.out hg2 (ownI_ge O1.out))
  clear hu2 hg2
  go_wp2_with fail
  refine (slices_CompactI ys _ _ _ O2.out (by omega)).mono ?_
  rintro e w3 ⟨u3, rfl, hu3, hg3, -⟩
  rw [HC.out] at hu3
  have O3 := hd hu3
  have X3 := hd (ext_appS X2.out hg3 (ownI_ge O2.out))
  clear hu3 hg3
  obtain ⟨A, c, rfl, h1, h2, -⟩ := O3.out.rd.form
  go_wp2
  go_loopw [5] (fun i wr => ∃ k : Nat, 1 ≤ k ∧ k ≤ ys.length + 1 ∧ i = .int .i64 (k : Int) ∧ OwnI wr w.heap.size 3 (.slice A ys.length c) ys ∧ Ext w wr) (fun i _ => ys.length + 2 - (intOf i).toNat)
  case atStart => exact ⟨1, by omega, by omega, rfl, O3.out, X3.out⟩
  case round =>
    obtain ⟨k, hk1, hk, rfl, ho, hx⟩ := hrel
    have HX := hd hx
    have HO := hd ho
    have HA := hd ho.rd
    clear ho hx
    by_cases hlt : k < ys.length
    · obtain ⟨a, rfl, hc1⟩ := RdI.at_ HA hlt
      obtain ⟨a', ha', hc'⟩ := RdI.at_ HA (show k - 1 < ys.length by omega)
      cases ha'
      have hlt1 : absI ys[k - 1] < absI ys[k] := by
        obtain ⟨m, rfl⟩ : ∃ m, k = m + 1 := ⟨k - 1, by omega⟩
        exact HLT.out m hlt
      have hb1 := hb.out _ (List.getElem_mem hlt)
      have hb2 := hb.out _ (List.getElem_mem (show k - 1 < ys.length by omega))
      generalize ys[k - 1]'(by omega) = y0 at *
      generalize ys[k] = y1 at *
      have hpos : 0 < k := by omega
      have hk2 : k ≤ ys.length := by omega
      have e3 : (0 : Int) ≤ (k : Int) := by omega
      have e4 : (0 : Int) ≤ (k : Int) - 1 := by omega
      have e5 : (k : Int) - 1 < (ys.length : Int) := by omega
      have hc2 : wr.cell? (a.add ((k : Int) - 1).toNat) = some (.int .i64 y0) := by rw [show ((k : Int) - 1).toNat = k - 1 from by omega]; exact hc'
      have hne : (y1 == -y0) = false := by
        cases hq : y1 == -y0 with
        | false => rfl
        | true =>
          have : y1 = -y0 := by simpa using hq
          subst this
          unfold absI at hlt1
          split at hlt1 <;> split at hlt1 <;> omega
      have hwk : IntKind.i64.wrap ((k : Int) - 1) = (k : Int) - 1 := IntWalk.i64_in _ (by omega)
      have hw0 : IntKind.i64.wrap (-y0) = -y0 := IntWalk.i64_in _ (by omega)
      clear hlt1
      obtain ⟨wo, rfl⟩ : ∃ wo : World, wo = wr := ⟨_, rfl⟩
      go_wp2_with fail
      go_quiet (fail)
      go_wp2
      go_roundw
      case rel => exact ⟨k + 1, by omega, by omega, by go_num, own_ext HO.out (ext_drewN _ _), HX.out.trans (ext_drewN _ _)⟩
      case measure => simp [intOf]; omega
    · go_wp2
      go_ret2
      exact ⟨_, rfl, HO.out, HX.out⟩
end Go.Proofs.Ytbdcomkbpapcaaa
