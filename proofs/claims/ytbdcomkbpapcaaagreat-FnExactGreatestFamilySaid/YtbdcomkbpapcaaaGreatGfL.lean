import Derived.Test.YtbdcomkbpapcaaaGreatGfT
import Derived.Test.YtbdcomkbpapcaaaGreatMg9
import Derived.Test.YtbdcomkbpapcaaaGreatSortG
/-
  The order of clauses of the program; sorting a slice of rows by it. Conditions: numbers within 1000, at most 10^6 of them.
-/

namespace Go.Proofs.YtbdcomkbpapcaaaGreat
open Go.RowKit Go.Sort Seed
def cfG : List Int → List Int → Int
  | [], [] => 0
  | [], _ :: _ => -1
  | _ :: _, [] => 1
  | x :: a, y :: b => if litI x y = 0 then cfG a b else litI x y
def cmpC (a b : List Int) : Int := orG [cmpI a.length b.length, cfG a b]
theorem litI_zero {a b : Int} (ha : -1000 ≤ a ∧ a ≤ 1000) (hb : -1000 ≤ b ∧ b ≤ 1000) : litI a b = 0 ↔ a = b := by
  have e1 : absW a = absI a := absW_eq (by omega)
  have e2 : absW b = absI b := absW_eq (by omega)
  unfold litI
  simp only [orG, cmpI]
  rw [e1, e2]
  unfold absI
  constructor
  · intro h
    split at h <;> split at h <;> split at h <;> split at h <;> first | omega | (split at h <;> first | omega | (split at h <;> omega)) | skip
    all_goals first | omega | (split at h <;> omega) | skip
  · rintro rfl
    simp
theorem litI_key {a b : Int} (ha : -1000 ≤ a ∧ a ≤ 1000) (hb : -1000 ≤ b ∧ b ≤ 1000) : litI a b < 0 ↔ keyL a < keyL b := by
  have e1 : absW a = absI a := absW_eq (by omega)
  have e2 : absW b = absI b := absW_eq (by omega)
  rw [litI_lt, e1, e2]
  unfold absI keyL
  split <;> split <;> omega
theorem cfG_bef : ∀ {a b : List Int}, a.length = b.length → (∀ x ∈ a, -1000 ≤ x ∧ x ≤ 1000) → (∀ x ∈ b, -1000 ≤ x ∧ x ≤ 1000) → (cfG a b < 0 ↔ befX a b = true)
  | [], [], _, _, _ => by simp [cfG, befX]
  | x :: a, y :: b, hl, ha, hb => by
    have hx := ha x (by simp)
    have hy := hb y (by simp)
    unfold cfG befX
    by_cases e : x = y
    · rw [if_pos e, if_pos ((litI_zero hx hy).2 e)]
      exact cfG_bef (by simpa using hl) (fun z hz => ha z (by simp [hz])) (fun z hz => hb z (by simp [hz]))
    · rw [if_neg e, if_neg (fun h => e ((litI_zero hx hy).1 h)), decide_eq_true_iff]
      exact litI_key hx hy
theorem cmpC_bef {a b : List Int} (ha : ∀ x ∈ a, -1000 ≤ x ∧ x ≤ 1000) (hb : ∀ x ∈ b, -1000 ≤ x ∧ x ≤ 1000) : cmpC a b < 0 ↔ befL a b = true := by
  unfold cmpC befL
  by_cases e : a.length = b.length
  · rw [if_pos e, ← cfG_bef e ha hb]
    have e2 : cmpI (a.length : Int) (b.length : Int) = 0 := by unfold cmpI; rw [if_neg (by omega), if_neg (by omega)]
    rw [e2]
    simp only [orG]
    by_cases hz : cfG a b = 0
    · simp [hz]
    · simp [hz]
  · rw [if_neg e, decide_eq_true_iff]
    unfold cmpI
    by_cases h : a.length < b.length
    · rw [if_pos (by omega)]
      simp [orG, h]
    · rw [if_neg (by omega), if_pos (by omega)]
      simp [orG, h]
theorem enters_cmpLit : ∀ (args : Array Value) (w : World), (callFunc 77 args).run Tryz.prog w = .ok (.enter 77 args) w := fun args w => by kernel_rfl
theorem ext_growA (w : World) (os : Array Obj) : Ext w (grow w os) := by
  refine ⟨rfl, rfl, rfl, by simp [grow], fun k hk => ?_⟩
  exact heap_grow_old _ _ hk
set_option maxHeartbeats 1600000 in
theorem i_compareLit0 (a b : Int) (w : World) : Calls Tryz.prog 77 #[.int .i64 a, .int .i64 b] w (fun e w' => e = .returned (.int .i64 (litI a b)) ∧ ∃ os, w' = grow w os) := by
  have HF : Hid (litI a b = orG [cmpI (absW a) (absW b), cmpI b a]) := hd rfl
  go_enter Tryz.func77, Tryz.ntmps77
  go_wp2_with (first
      | (go_at_call 68; refine (i_abs _ _).mono ?_; rintro e w1 ⟨rfl, rfl⟩)
      | (go_at_call 75; refine (c_cmp_Compare _ _ _).mono ?_; rintro e w1 ⟨rfl, rfl⟩)
      | (go_at_call 74; refine (c_cmp_Or [cmpI (absW a) (absW b), cmpI b a] _ _ ?_ (by simp)).mono ?_
         · exact rdI_pair (heap_alloc_new _ _)
         rintro e w4 ⟨rfl, rfl⟩))
  go_ret
  exact ⟨by rw [HF.out]; rfl, #[.cells #[.int .i64 (cmpI (absW a) (absW b)), .int .i64 (cmpI b a)] 3], by unfold grow; rw [Array.append_singleton]; rfl⟩
set_option maxRecDepth 100000 in
set_option maxHeartbeats 1600000 in
theorem slices_CompareFuncI (a b : List Int) (u v : Value) (w : World) (hu : RdI w u a) (hv : RdI w v b) (hla : a.length ≤ 1000000) (hlb : b.length ≤ 1000000) :
    Calls Tryz.prog 76 #[u, v, .func (.func 77) #[] #[]] w (fun e w' => e = .returned (.int .i64 (cfG a b)) ∧ ∃ os, w' = grow w os) := by
  obtain ⟨A, c, rfl, h1, h2, ha⟩ := hu.form
  obtain ⟨B, d, rfl, h3, h4, hb⟩ := hv.form
  clear hu hv
  have hge := enters_cmpLit
  go_enter Tryz.func76, Tryz.ntmps76
  go_wp2
  go_loopw [13] (fun iv wr => ∃ k : Nat, k ≤ a.length ∧ k ≤ b.length ∧ iv = .int .i64 (k : Int) ∧ Hid (cfG a b = cfG (a.drop k) (b.drop k)) ∧ Hid (∃ os, wr = grow w os)) (fun iv _ => a.length - (intOf iv).toNat)
  case atStart => exact ⟨0, by omega, by omega, rfl, hd rfl, hd ⟨#[], by simp⟩⟩
  case round =>
    obtain ⟨k, hk, hk2, rfl, HR, HG⟩ := hrel
    have HX : Hid (Ext w wr) := hd (by obtain ⟨os, e⟩ := HG.out; rw [e]; exact ext_growA _ _)
    by_cases hlt : k < a.length
    · obtain ⟨a1, rfl, hc0⟩ := RdI.at_ ha hlt
      have hc1 := HX.out.cell hc0
      have hda : a.drop k = a[k] :: a.drop (k + 1) := List.drop_eq_getElem_cons hlt
      by_cases hlb2 : k < b.length
      · obtain ⟨b1, rfl, hd0⟩ := RdI.at_ hb hlb2
        have hd1 := HX.out.cell hd0
        have hdb : b.drop k = b[k] :: b.drop (k + 1) := List.drop_eq_getElem_cons hlb2
        have HE : Hid (cfG a b = if litI a[k] b[k] = 0 then cfG (a.drop (k + 1)) (b.drop (k + 1)) else litI a[k] b[k]) := hd (by rw [HR.out, hda, hdb, cfG])
        have hkb : ¬ (k : Int) ≥ (b.length : Int) := by omega
        clear hda hdb hc0 hd0
        generalize a[k] = x at *
        generalize b[k] = y at *
        have HC := hd (i_compareLit0 x y wr)
        generalize litI x y = z at *
        by_cases hz : z = 0
        · subst hz
          have HE2 : Hid (cfG a b = cfG (a.drop (k + 1)) (b.drop (k + 1))) := hd (by rw [HE.out, if_pos rfl])
          go_wp2_with fail
          refine HC.out.mono ?_
          rintro e w1 ⟨rfl, os, hw1⟩
          have HG1 : Hid (∃ os, w1 = grow w os) := hd (by obtain ⟨os0, e⟩ := HG.out; exact ⟨os0 ++ os, by rw [hw1, e, grow_grow]⟩)
          clear hw1
          go_wp2
          go_roundw
          case rel => exact ⟨k + 1, by omega, by omega, by go_num, HE2, HG1⟩
          case measure => simp [intOf]; omega
        · have HE2 : Hid (cfG a b = z) := hd (by rw [HE.out, if_neg hz])
          have hz2 : z ≠ 0 := hz
          go_wp2_with fail
          refine HC.out.mono ?_
          rintro e w1 ⟨rfl, os, hw1⟩
          have HG1 : Hid (∃ os, w1 = grow w os) := hd (by obtain ⟨os0, e⟩ := HG.out; exact ⟨os0 ++ os, by rw [hw1, e, grow_grow]⟩)
          clear hw1
          go_wp2
          go_ret
          exact ⟨by rw [HE2.out]; rfl, HG1.out⟩
      · have hkb : (k : Int) ≥ (b.length : Int) := by omega
        have HE2 : Hid (cfG a b = 1) := hd (by rw [HR.out, hda, show b.drop k = [] from List.drop_eq_nil_of_le (by omega), cfG])
        clear hda
        go_wp2
        go_ret
        exact ⟨by rw [HE2.out]; rfl, HG.out⟩
    · obtain rfl : k = a.length := by omega
      by_cases hlb2 : a.length < b.length
      · have hl2 : (a.length : Int) < (b.length : Int) := by omega
        have HE2 : Hid (cfG a b = -1) := hd (by rw [HR.out, List.drop_length, List.drop_eq_getElem_cons hlb2, cfG])
        go_wp2
        go_ret
        exact ⟨by rw [HE2.out]; rfl, HG.out⟩
      · have hl2 : ¬ (a.length : Int) < (b.length : Int) := by omega
        have HE2 : Hid (cfG a b = 0) := hd (by rw [HR.out, List.drop_length, List.drop_eq_nil_of_le (by omega), cfG])
        go_wp2
        go_ret
        exact ⟨by rw [HE2.out]; rfl, HG.out⟩
theorem i_compareClauses (a b : List Int) (u v : Value) (w : World) (hu : RdI w u a) (hv : RdI w v b) (hla : a.length ≤ 1000000) (hlb : b.length ≤ 1000000) :
    Calls Tryz.prog 55 #[u, v] w (fun e w' => e = .returned (.int .i64 (cmpC a b)) ∧ ∃ n os, w' = grow (w.drewN n) os) := by
  have HC := hd (slices_CompareFuncI a b u v w hu hv hla hlb)
  have HF : Hid (cmpC a b = orG [cmpI a.length b.length, cfG a b]) := hd rfl
  obtain ⟨A, c, rfl, -⟩ := hu.form
  obtain ⟨B, d, rfl, -⟩ := hv.form
  clear hu hv
  generalize cfG a b = z at *
  go_enter Tryz.func55, Tryz.ntmps55
  go_wp2_with fail
  refine (c_cmp_Compare _ _ _).mono ?_
  rintro e w1 ⟨rfl, rfl⟩
  go_wp2_with fail
  refine HC.out.mono ?_
  rintro e w1 ⟨rfl, os, hw1⟩
  have HW1 := hd hw1
  clear hw1
  go_wp2_with fail
  refine (c_cmp_Or [cmpI (a.length : Int) (b.length : Int), z] _ _ (rdI_pair (heap_alloc_new _ _)) (by simp)).mono ?_
  rintro e w4 ⟨rfl, rfl⟩
  go_wp2
  go_ret
  exact ⟨by rw [HF.out]; rfl, 0, os ++ #[.cells #[.int .i64 (cmpI (a.length : Int) (b.length : Int)), .int .i64 z] 3], by rw [show w.drewN 0 = w from rfl, ← grow_grow, ← HW1.out]; unfold grow; rw [Array.append_singleton]; rfl⟩
theorem enters_cmpCl : ∀ (args : Array Value) (w : World), (callFunc 55 args).run Tryz.prog w = .ok (.enter 55 args) w := fun args w => by kernel_rfl
/-- A row that may be nil. -/
def RowN (w : World) (z : Row) : Prop := (z.1 = .slice none 0 0 ∧ z.2 = []) ∨ RowR w z
theorem RowN.ext {w w' : World} {z : Row} (h : RowN w z) (hx : Ext w w') : RowN w' z := h.imp id (fun h => h.ext hx)
theorem RowN.rd {w : World} {z : Row} (h : RowN w z) : RdI w z.1 z.2 := by
  obtain ⟨u, xs⟩ := z
  rcases h with ⟨h1, h2⟩ | h
  · simp only at h1 h2
    subst h1
    subst h2
    exact ⟨rfl, none, 0, rfl, Nat.le_refl _, Nat.zero_le _, fun j u hu => by simp [ints] at hu⟩
  · exact h.1
theorem RowN.one {w : World} {z : Row} (h : RowN w z) : ∃ A c, z.1 = .slice A z.2.length c := by
  obtain ⟨A, c, e, -⟩ := h.rd.form
  exact ⟨A, c, e⟩
theorem rowN_grown {w w' : World} {lo : Nat} {v : Value} {zs : List Row} (ho : OutZ w lo v zs) {z : Row} (h : RowN w z) (hg : w.grownBy w' v.ownBlock) : RowN w' z := h.imp id (fun h => rowR_grown ho h hg)
abbrev RowOk (w : World) (z : Row) : Prop := RowN w z ∧ z.2.length ≤ 1000000 ∧ ∀ x ∈ z.2, -1000 ≤ x ∧ x ≤ 1000
theorem swo_rows {w : World} : SWO (ltOf fun x y : {z : Row // RowOk w z} => cmpC x.1.2 y.1.2) := by
  have e : ∀ x y : {z : Row // RowOk w z}, (ltOf fun x y : {z : Row // RowOk w z} => cmpC x.1.2 y.1.2) x y = befL x.1.2 y.1.2 := fun x y => by
    unfold ltOf
    rw [Bool.eq_iff_iff, decide_eq_true_iff]
    exact cmpC_bef x.2.2.2 y.2.2.2
  refine ⟨fun x => by rw [e]; exact befL_irr _, fun x y z h1 h2 => ?_, fun x y z h1 h2 => ?_⟩
  · rw [e] at *; exact befL_trans h1 h2
  · rw [e] at *
    cases h : befL x.1.2 z.1.2 with
    | false => rfl
    | true =>
      by_cases hxy : x.1.2 = y.1.2
      · rw [hxy, h2] at h; cases h
      · rcases befL_tot hxy with h3 | h3
        · rw [h3] at h1; cases h1
        · rw [befL_trans h3 h] at h2; cases h2
def RetSortR (w : World) (lo : Nat) (v : Value) (zs : List Row) : Ending → World → Prop := fun e w' => e = .returned (.tuple #[]) ∧ ∃ ys : List Row, ys.Perm zs ∧ (ys.map Prod.snd).Pairwise (fun a b => befL b a = false) ∧ OutZ w' lo v ys ∧ w.grownBy w' v.ownBlock
theorem slices_SortRows (zs : List Row) (v : Value) (w : World) (lo : Nat) (hz : ∀ z ∈ zs, RowOk w z) (h : OutZ w lo v zs) (hl : zs.length ≤ 1048576) :
    Calls Tryz.prog 54 #[v, .func (.func 55) #[] #[]] w (RetSortR w lo v zs) := by
  have h0 := h
  rcases h.2 with ⟨rfl, hnn⟩ | ⟨g, cap, cur, rfl, hb, hg, hnc, hcm, hcs, ht⟩
  · obtain rfl : zs = [] := List.eq_nil_of_length_eq_zero hnn
    refine (AnyF.slices_SortFunc_none Tryz.sortFuncR0 none 0 _ w).mono ?_
    rintro e w' ⟨rfl, rfl⟩
    exact ⟨rfl, [], List.Perm.refl _, List.Pairwise.nil, h0, grown_refl _ _⟩
  · cases hxs : zs with
    | nil =>
      subst hxs
      refine (AnyF.slices_SortFunc_none Tryz.sortFuncR0 (some ⟨g, 0, none⟩) cap _ w).mono ?_
      rintro e w' ⟨rfl, rfl⟩
      exact ⟨rfl, [], List.Perm.refl _, List.Pairwise.nil, h0, grown_refl _ _⟩
    | cons x0 r0 =>
      rw [← hxs]
      haveI : Inhabited {z : Row // RowOk w z} := ⟨⟨x0, hz x0 (by rw [hxs]; simp)⟩⟩
      clear hxs
      obtain ⟨ss, rfl⟩ := lift_sub (P := fun z : Row => RowOk w z) zs hz
      have hlen : (ss.map Subtype.val).length = ss.toArray.size := by simp
      have hH : Holds (fun z : {z : Row // RowOk w z} => z.1.1) w g 0 ss.toArray := holds_of_blockG hg (by
        have e : ss.map (fun z => z.1.1) = (ss.map Subtype.val).map Prod.fst := by simp
        rw [e, ← ht]
        simp)
      have hC : CmpLays1 Tryz.prog 55 #[] (fun z : {z : Row // RowOk w z} => z.1.1) (fun x y => cmpC x.1.2 y.1.2) g 0 ss.toArray.size w :=
        fun m os dk _ x y => i_compareClauses x.1.2 y.1.2 _ _ _ (rowN_grown h0 x.2.1 (grownBy_sortedG dk)).rd (rowN_grown h0 y.2.1 (grownBy_sortedG dk)).rd x.2.2.1 y.2.2.1
      rw [hlen]
      refine (Any.slices_SortFunc Tryz.sortFuncRL (fun z : {z : Row // RowOk w z} => z.1.1) (fun z => by obtain ⟨A, c, e⟩ := z.2.1.one; show z.1.1.oneCell' = true; rw [e]; rfl) (fun x y => cmpC x.1.2 y.1.2) swo_rows 55 #[] g 0 cap ss.toArray w enters_cmpCl hC hH (Array.getElem?_eq_some_iff.1 hg).1 (by simp at hl ⊢; omega)).mono ?_
      rintro e w' ⟨rfl, d', n, os, hp, hs, rfl⟩
      have hsz : d'.size = ss.toArray.size := hp.1
      have hperm : d'.toList.Perm ss := by
        have h2 := hp.2.2
        have e1 : d'.extract 0 ss.toArray.size = d' := by rw [← hsz]; exact Array.extract_size
        rw [e1, Array.extract_size] at h2
        exact h2
      refine ⟨rfl, d'.toList.map Subtype.val, hperm.map _, ?_, ?_, grownBy_sortedG d'⟩
      · rw [List.pairwise_iff_getElem]
        intro i j hi hj hij
        simp only [List.length_map, Array.length_toList] at hi hj
        have k1 := hs i j (Nat.zero_le _) hij (by rw [← hsz]; exact hj)
        rw [getElem!_pos d' j hj, getElem!_pos d' i hi] at k1
        simp only [List.getElem_map, Array.getElem_toList]
        unfold ltOf at k1
        have k2 := of_decide_eq_false k1
        rw [cmpC_bef d'[j].2.2.2 d'[i].2.2.2] at k2
        simpa using k2
      · have := ownsRow_sortedG (enc := fun z : {z : Row // RowOk w z} => z.1.1) (n := n) (os := os) (base := lo) (ts := d'.toList) (m := ss.toArray.size) (by simpa using hsz) hb hg (by simpa using hnc) hcm hcs
        have e2 : (d'.toList.map Subtype.val).length = ss.toArray.size := by simpa using hsz
        have e3 : (d'.toList.map Subtype.val).map Prod.fst = d'.toList.map (fun z => z.1.1) := by simp
        show Own _ _ _ _ _ (d'.toList.map Subtype.val).length ((d'.toList.map Subtype.val).map Prod.fst)
        rw [e2, e3]
        simpa [sortWorld] using this
end Go.Proofs.YtbdcomkbpapcaaaGreat
