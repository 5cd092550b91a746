/-
  Chapter 30: monotone lists: what the program's and the reference's functions compute. Conditions: list lengths up to 2^30.
-/
import Derived.Test.YtegaablidoibdaaHelp
namespace Go.Proofs.Ytegaablidoibdaa
open Go.RowKit

def belowB (m n : Nat) : Bool := m &&& n == m
theorem i_below (m n : Nat) (w : World) (hm : m ≤ 1073741824) (hn : n ≤ 1073741824) :
    Calls Try.prog 68 #[.int .i64 m, .int .i64 n] w (Ret w (.bool (belowB m n))) := by
  have hb := and64 m n (by omega) (by omega)
  have hf : Hid ((((m &&& n : Nat) : Int) == (m : Int)) = belowB m n) := hd (natcast_beq _ _)
  go_enter Try.func68, Try.ntmps68
  go_wp2
  go_ret
  exact Ret.mk (by rw [← hf.out]; rfl)

/-- The value of the hull at n: some m below n has it. -/
def hullAt (vs : List Bool) (n : Nat) : Bool := (List.range vs.length).any fun m => vs.getD m false && (m &&& n == m)
def hullB (vs : List Bool) : List Bool := (List.range vs.length).map (hullAt vs)
def hullTo (vs : List Bool) (n k : Nat) : Bool := (List.range k).any fun m => vs.getD m false && (m &&& n == m)
theorem hullTo_succ (vs : List Bool) (n k : Nat) (h : k < vs.length) : hullTo vs n (k + 1) = (hullTo vs n k || (vs[k] && (k &&& n == k))) := by
  unfold hullTo
  rw [List.range_succ, List.any_append]
  simp [List.getD, h]
@[simp] theorem length_hullB (vs : List Bool) : (hullB vs).length = vs.length := by simp [hullB]
theorem hullB_get {vs : List Bool} {n : Nat} (h : n < vs.length) : (bools (hullB vs))[n]? = some (.bool (hullTo vs n vs.length)) := by simp [bools, hullB, h]; rfl
theorem getElem_hullB {vs : List Bool} {n : Nat} (h : n < (hullB vs).length) : (hullB vs)[n] = hullAt vs n := by simp [hullB]

set_option maxHeartbeats 1600000 in
theorem s_l30Hull (vs : List Bool) (v : Value) (w : World) (h : RdB w v vs) (hl : vs.length ≤ 1048576) :
    Calls Try.prog 67 #[v] w (RetB w 4 (hullB vs)) := by
  obtain ⟨A, c, rfl, h1, h2, ha⟩ := h.form
  obtain ⟨i0, hi, hz0, hz1, hz2⟩ := info_parts info_bool
  clear h
  go_enter Try.func67, Try.ntmps67
  go_wp2_with (at_make; refine wpList_make_full _ rfl _ _ 22 rfl w.heap.size 4 i0 (.bool false) 1 Try.underlying22 hi hz0 hz1 _ _ _ _ vs.length rfl rfl rfl rfl (by rw [hz2]; omega) (by unfold maxLen; omega) (Nat.le_refl _) ?_; intro w1 hown1 hgrow1)
  have hE : Ext w w1 := (Ext.refl w).grown hgrow1 (Nat.le_refl _) (by simp)
  have hZ : (madeCells (Value.bool false).cells (vs.length * 1)).toList = bools (List.replicate vs.length false) := by
    simp [bools, toList_madeCells_one, Value.cells]
  rw [hZ] at hown1
  clear hgrow1 hi hz0 hz1 hz2 hZ
  go_loopw [4] (fun i wr => ∃ k : Nat, k ≤ vs.length ∧ i = .int .i64 k ∧ Own wr w.heap.size 4 1 (.slice (some ⟨w.heap.size, 0, none⟩) vs.length vs.length) vs.length ((bools (hullB vs)).take k ++ (bools (List.replicate vs.length false)).drop k) ∧ Ext w wr) (fun i _ => vs.length - (intOf i).toNat)
  case atStart => exact ⟨0, by omega, rfl, by simpa using hown1, hE⟩
  case round =>
    clear hown1 hE
    obtain ⟨k, hk, rfl, ho, hx⟩ := hrel
    by_cases hlt : k < vs.length
    · go_wp2
      obtain ⟨wo, rfl⟩ : ∃ wo : World, wo = wr := ⟨_, rfl⟩
      go_loopw [5] (fun i wr => ∃ m : Nat, m ≤ vs.length ∧ i = .int .i64 m ∧ Own wr w.heap.size 4 1 (.slice (some ⟨w.heap.size, 0, none⟩) vs.length vs.length) vs.length ((bools (hullB vs)).take k ++ .bool (hullTo vs k m) :: (bools (List.replicate vs.length false)).drop (k + 1)) ∧ Ext w wr) (fun i _ => vs.length - (intOf i).toNat)
      case atStart => exact ⟨0, by omega, rfl, by rw [drop_cons (by simpa using hlt)] at ho; simpa [bools, hullTo] using ho, hx⟩
      case round =>
        clear ho hx
        obtain ⟨m, hm, rfl, ho, hx⟩ := hrel
        by_cases hltm : m < vs.length
        · obtain ⟨a, rfl, hc0⟩ := RdB.at_ ha hltm
          have hc := hx.cell hc0
          clear hc0
          obtain ⟨-, hfr, hst⟩ := own_store ho hlt
          have hcell := World.ownsRow.cellAt ho k (by omega)
          have hkl : ((bools (hullB vs)).take k).length = k := by simp; omega
          rw [List.getElem?_append_right (by omega), hkl, Nat.sub_self, List.getElem?_cons_zero] at hcell
          have hs := hullTo_succ vs k m hltm
          have hband := and64 m k (by omega) (by omega)
          have hst2 : Hid (∀ u, Own (wr.setCell ⟨w.heap.size, k, none⟩ u) w.heap.size 4 1 (.slice (some ⟨w.heap.size, 0, none⟩) vs.length vs.length) vs.length ((bools (hullB vs)).take k ++ u :: (bools (List.replicate vs.length false)).drop (k + 1))) := hd fun u => by
            have := hst.out u
            rwa [List.set_append_right _ _ (by omega), hkl, Nat.sub_self, List.set_cons_zero] at this
          have heq : (((m &&& k : Nat) : Int) == (m : Int)) = (m &&& k == m) := natcast_beq _ _
          generalize hb0 : hullTo vs k m = b0 at *
          generalize hb1 : vs[m] = b1 at *
          generalize hb2 : (m &&& k == m) = b2 at *
          have HS := hd hs
          clear hs hst hkl ho hb0 hb1 hb2
          cases b0 <;> cases b1 <;> cases b2
          all_goals
            go_wp2
            go_roundw
            case rel => exact ⟨m + 1, by omega, by go_num, by rw [HS.out]; exact hst2.out _, hx.setCell (Nat.le_refl _) _⟩
            case measure => simp [intOf]; omega
        · go_wp2
          obtain rfl : m = vs.length := by omega
          go_roundw
          case rel => exact ⟨k + 1, by omega, by go_num, by rw [List.take_add_one, hullB_get hlt, List.append_assoc]; exact ho, hx⟩
          case measure => simp [intOf]; omega
    · go_wp2
      go_ret
      obtain rfl : k = vs.length := by omega
      rw [List.take_of_length_le (by simp), List.drop_eq_nil_of_le (by simp), List.append_nil] at ho
      exact ⟨_, rfl, by unfold OwnB; rw [length_hullB]; exact ho, hx⟩
def pow2B (n : Nat) : Bool := n == 1 || n == 2 || n == 4 || n == 8 || n == 16 || n == 32 || n == 64
def monoB (vs : List Bool) : Bool := eqB (hullB vs) vs
theorem monoB_true {vs : List Bool} (h : ∀ (i : Nat) (hi : i < vs.length), hullAt vs i = vs[i]) : monoB vs = true := by
  unfold monoB
  rw [eqB_iff]
  refine List.ext_getElem (by simp) fun i h1 h2 => ?_
  rw [getElem_hullB]; exact h i h2
theorem monoB_false {vs : List Bool} {k : Nat} (hk : k < vs.length) (h : hullAt vs k ≠ vs[k]) : monoB vs = false := by
  rw [Bool.eq_false_iff]
  intro he
  unfold monoB at he
  rw [eqB_iff] at he
  have e : (hullB vs)[k]? = vs[k]? := by rw [he]
  rw [List.getElem?_eq_getElem (by simpa using hk), List.getElem?_eq_getElem hk, getElem_hullB] at e
  exact h (Option.some.inj e)
set_option maxHeartbeats 6400000 in
theorem s_IsMonotoneList (vs : List Bool) (v : Value) (w : World) (h : RdB w v vs) (hl : vs.length ≤ 1048576) :
    Calls Try.prog 15 #[v] w (RetX w (.tuple #[.bool (pow2B vs.length && monoB vs), .bool (pow2B vs.length)])) := by
  obtain ⟨A, c, rfl, h1, h2, ha⟩ := h.form
  have HA := hd h
  clear h
  go_enter Try.func15, Try.ntmps15
  go_wp2
  go_loop [4] (fun s => ∃ j : Nat, j ≤ 6 ∧ s = .int .i64 j ∧ Hid (j = 0 ∨ 2 ^ (j - 1) < vs.length)) (fun s => 6 - (intOf s).toNat)
  case atStart => exact ⟨0, by omega, rfl, .inl rfl⟩
  case round =>
    obtain ⟨j, hj, rfl, HJ⟩ := hrel
    by_cases hr : j < 6 ∧ 2 ^ j < vs.length
    · rcases (by omega : j = 0 ∨ j = 1 ∨ j = 2 ∨ j = 3 ∨ j = 4 ∨ j = 5) with rfl | rfl | rfl | rfl | rfl | rfl
      all_goals
        have hlt := hr.2
        simp only [Nat.reducePow] at hlt
        have HR := hd hr
        clear hr
        go_wp2
        go_round
        case rel => first | exact ⟨1, by decide, rfl, hd (.inr hlt)⟩ | exact ⟨2, by decide, rfl, hd (.inr hlt)⟩ | exact ⟨3, by decide, rfl, hd (.inr hlt)⟩ | exact ⟨4, by decide, rfl, hd (.inr hlt)⟩ | exact ⟨5, by decide, rfl, hd (.inr hlt)⟩ | exact ⟨6, by decide, rfl, hd (.inr hlt)⟩
        case measure => simp [intOf]
    · by_cases he : vs.length = 2 ^ j
      · have hp : Hid (pow2B vs.length = true) := hd (by
          rw [he]; rcases (by omega : j = 0 ∨ j = 1 ∨ j = 2 ∨ j = 3 ∨ j = 4 ∨ j = 5 ∨ j = 6) with rfl | rfl | rfl | rfl | rfl | rfl | rfl <;> rfl)
        have hp2 : Hid ((pow2B vs.length && monoB vs) = monoB vs) := hd (by rw [hp.out]; rfl)
        have hb : (((vs.length : Nat) : Int) != ((2 ^ j : Nat) : Int)) = false := by rw [he]; simp
        clear hr
        rcases (by omega : j = 0 ∨ j = 1 ∨ j = 2 ∨ j = 3 ∨ j = 4 ∨ j = 5 ∨ j = 6) with rfl | rfl | rfl | rfl | rfl | rfl | rfl
        all_goals
          simp only [Nat.reducePow, Int.cast_ofNat_Int] at he hb
          have hle := Nat.le_of_eq he
          have hge := Nat.le_of_eq he.symm
          have HE := hd he
          clear he
          go_wp2_with fail
          refine (s_l30Hull vs _ _ HA.out (by omega)).mono ?_
          rintro e w2 ⟨u, rfl, hu, hx2⟩
          obtain ⟨A2, c2, rfl, -⟩ := hu.form
          have HB := hd hu.rd
          rw [length_hullB]
          clear hu
          go_wp2_with fail
          go_loopw [6] (fun i wr => ∃ k n : Nat, k ≤ vs.length ∧ i = .int .i64 k ∧ Hid (∀ (i : Nat) (hi : i < vs.length), i < k → hullAt vs i = vs[i]) ∧ wr = w2.drewN n) (fun i _ => vs.length - (intOf i).toNat)
          case atStart => exact ⟨0, 0, by omega, rfl, hd fun i hi h0 => absurd h0 (by omega), rfl⟩
          case round =>
            obtain ⟨k, n, hk, rfl, HR, rfl⟩ := hrel
            by_cases hlt : k < vs.length
            · obtain ⟨a, rfl, hc0⟩ := RdB.at_ HA hlt
              obtain ⟨a', rfl, hc'⟩ := RdB.at_ HB (k := k) (by simpa using hlt)
              have hc := hx2.cell hc0
              rw [getElem_hullB] at hc'
              have e1 : (0 : Int) ≤ (k : Int) := by omega
              have e2 : (k : Int) < (vs.length : Int) := by omega
              have hN := fun h => hd (monoB_false (vs := vs) hlt h)
              have HN := hd hN
              have hS : hullAt vs k = vs[k] → ∀ (i : Nat) (hi : i < vs.length), i < k + 1 → hullAt vs i = vs[i] := fun h i hi h0 => by
                by_cases e : i = k
                · subst e; exact h
                · exact HR.out i hi (by omega)
              have HS := hd hS
              clear hc0 hN hS ha
              generalize vs[k] = x at *
              generalize hullAt vs k = y at *
              cases x <;> cases y
              all_goals
                go_wp2_with fail
                go_quiet (fail)
                go_wp2
              all_goals first
                | (go_ret2
                   rw [World.drewN_drewN]
                   exact RetX.mk (by rw [hp2.out, hp.out, (HN.out (by decide)).out]; rfl) (hx2.drewN _))
                | (go_roundw
                   case rel => exact ⟨k + 1, _, by omega, by go_num, hd (HS.out (by simp)), rfl⟩
                   case measure => simp [intOf]; omega)
            · go_wp2
              go_ret2
              exact RetX.mk (by rw [hp2.out, hp.out, monoB_true fun i hi => HR.out i hi (by omega)]; rfl) (hx2.drewN _)
      · have hp : Hid (pow2B vs.length = false) := hd (by
          rcases (by omega : j = 0 ∨ j = 1 ∨ j = 2 ∨ j = 3 ∨ j = 4 ∨ j = 5 ∨ j = 6) with rfl | rfl | rfl | rfl | rfl | rfl | rfl <;> (have := HJ.out; simp only [Nat.reducePow, Nat.reduceSub] at *; simp [pow2B]; omega))
        have hb : (((vs.length : Nat) : Int) != ((2 ^ j : Nat) : Int)) = true := by
          have := natcast_beq vs.length (2 ^ j)
          simp only [bne, this]; simpa using he
        clear HJ
        rcases (by omega : j = 0 ∨ j = 1 ∨ j = 2 ∨ j = 3 ∨ j = 4 ∨ j = 5 ∨ j = 6) with rfl | rfl | rfl | rfl | rfl | rfl | rfl
        all_goals
          simp only [Nat.reducePow, Int.cast_ofNat_Int] at he hb hr
          have hle : vs.length < 64 ∨ 64 ≤ vs.length := by omega
          go_wp2
          go_ret2
          exact RetX.mk (by rw [hp.out]; rfl) (Ext.refl _)
theorem hullAt_of {vs : List Bool} {m n : Nat} (hm : m < vs.length) (h1 : vs[m] = true) (h2 : belowB m n = true) : hullAt vs n = true := by
  unfold hullAt
  rw [List.any_eq_true]
  exact ⟨m, List.mem_range.2 hm, by simp [List.getD, hm, h1]; simpa [belowB] using h2⟩
theorem hullAt_no {vs : List Bool} {n : Nat} (hn : n < vs.length) (h : ∀ (m : Nat) (hm : m < vs.length), vs[m] = true → belowB m n = true → vs[n] = true) : hullAt vs n = vs[n] := by
  cases hb : vs[n] with
  | true => exact hullAt_of hn hb (by simp [belowB])
  | false =>
    rw [Bool.eq_false_iff]
    unfold hullAt
    rw [Ne, List.any_eq_true]
    rintro ⟨m, hm, hh⟩
    have hm' := List.mem_range.1 hm
    simp [List.getD, hm'] at hh
    have := h m hm' hh.1 (by simpa [belowB] using hh.2)
    rw [this] at hb; cases hb
theorem pow2_and : ∀ n, n < 65 → 1 ≤ n → (n &&& (n - 1) == 0) = pow2B n := by decide
theorem pow2_le {n : Nat} (h : pow2B n = true) : 1 ≤ n ∧ n ≤ 64 := by simp [pow2B] at h; omega

set_option maxHeartbeats 1600000 in
theorem i_IsMonotoneList (vs : List Bool) (v : Value) (w : World) (h : RdB w v vs) (hl : vs.length ≤ 1048576) :
    Calls Try.prog 17 #[v] w (Ret w (.tuple #[.bool (pow2B vs.length && monoB vs), .bool (pow2B vs.length)])) := by
  obtain ⟨A, c, rfl, h1, h2, ha⟩ := h.form
  clear h
  go_enter Try.func17, Try.ntmps17
  by_cases hr : vs.length < 1 ∨ 64 < vs.length
  · have hp : Hid (pow2B vs.length = false) := hd (by rw [Bool.eq_false_iff]; intro h; have := pow2_le h; omega)
    by_cases hr1 : vs.length < 1
    all_goals
      go_wp2
      go_ret2
      exact Ret.mk (by rw [hp.out]; rfl)
  · have hn1 : 1 ≤ vs.length := by omega
    have hn2 : vs.length ≤ 64 := by omega
    have hband : bits .and .i64 (vs.length : Int) ((vs.length : Int) - 1) = ((vs.length &&& (vs.length - 1) : Nat) : Int) := by
      rw [← and64 _ _ (by omega) (by omega)]; congr 1; omega
    have hz := pow2_and vs.length (by omega) hn1
    rw [← natcast_beq] at hz
    generalize hpb : pow2B vs.length = pb at *
    generalize (((vs.length &&& (vs.length - 1) : Nat) : Int)) = z at *
    clear hr
    cases pb
    · have hz' : (z != 0) = true := by simpa [bne] using hz
      clear hz
      go_wp2
      go_ret2
      exact Ret.mk (by rfl)
    · have hz' : (z != 0) = false := by simpa [bne] using hz
      clear hz hpb
      go_wp2
      go_loop [25] (fun i => ∃ k : Nat, k ≤ vs.length ∧ i = .int .i64 k ∧ Hid (∀ (m n : Nat) (hm : m < vs.length) (hn : n < vs.length), m < k → vs[m] = true → belowB m n = true → vs[n] = true)) (fun i => vs.length - (intOf i).toNat)
      case atStart => exact ⟨0, by omega, rfl, hd fun m n hm hn h0 => absurd h0 (by omega)⟩
      case round =>
        obtain ⟨k, hk, rfl, HR⟩ := hrel
        by_cases hlt : k < vs.length
        · obtain ⟨a, rfl, hc⟩ := RdB.at_ ha hlt
          obtain ⟨x, hx⟩ : ∃ x, vs[k] = x := ⟨_, rfl⟩
          rw [hx] at hc
          have HX := hd hx
          clear hx
          go_wp2
          go_loop [32] (fun i => ∃ j : Nat, j ≤ vs.length ∧ i = .int .i64 j ∧ Hid (∀ (n : Nat) (hn : n < vs.length), n < j → x = true → belowB k n = true → vs[n] = true)) (fun i => vs.length - (intOf i).toNat)
          case atStart => exact ⟨0, by omega, rfl, hd fun n hn h0 => absurd h0 (by omega)⟩
          case round =>
            obtain ⟨j, hj, rfl, HS⟩ := hrel
            by_cases hltj : j < vs.length
            · obtain ⟨a', ha', hc'⟩ := RdB.at_ ha hltj
              cases ha'
              obtain ⟨y, hy⟩ : ∃ y, vs[j] = y := ⟨_, rfl⟩
              obtain ⟨b, hb⟩ : ∃ b, belowB k j = b := ⟨_, rfl⟩
              rw [hy] at hc'
              have HY := hd hy
              have HB := hd hb
              clear hy hb
              cases x <;> cases b <;> cases y
              all_goals
                go_wp2_with (go_at_call 68; refine (rt (i_below k j _ (by omega) (by omega)) HB).mono ?_; rintro e w' ⟨rfl, rfl⟩)
              all_goals first
                | (go_ret2
                   exact Ret.mk (by rw [monoB_false (k := j) hltj (by rw [hullAt_of hlt HX.out HB.out, HY.out]; decide)]; rfl))
                | (go_round
                   case rel => exact ⟨j + 1, by omega, by go_num, hd fun n hn h0 e1 e2 => by
                    by_cases e : n = j
                    · subst e; first | (cases e1; done) | exact HY.out | (rw [HB.out] at e2; cases e2)
                    · exact HS.out n hn (by omega) e1 e2⟩
                   case measure => simp [intOf]; omega)
            · go_wp2
              go_round
              case rel => exact ⟨k + 1, by omega, by go_num, hd fun m n hm hn h0 e1 e2 => by (by_cases e : m = k); (· subst e; exact HS.out n hn (by omega) (HX.out.symm.trans e1) e2); (· exact HR.out m n hm hn (by omega) e1 e2)⟩
              case measure => simp [intOf]; omega
        · go_wp2
          go_ret2
          exact Ret.mk (by rw [monoB_true fun i hi => hullAt_no hi fun m hm => HR.out m i hm hi (by omega)]; rfl)
end Go.Proofs.Ytegaablidoibdaa
