/-
  Chapter 30: monotone lists: what the program's and the reference's functions compute. Conditions: list lengths up to 2^30.
-/
import Derived.Test.YtlegfibfjhfkhaaHelp
namespace Go.Proofs.Ytlegfibfjhfkhaa
open Go.RowKit

def belowB (m n : Nat) : Bool := m &&& n == m
theorem i_below (m n : Nat) (w : World) (hm : m ≤ 1073741824) (hn : n ≤ 1073741824) :
    Calls Try.prog 148 #[.int .i64 m, .int .i64 n] w (Ret w (.bool (belowB m n))) := by
  have hb := and64 m n (by omega) (by omega)
  have hf : Hid ((((m &&& n : Nat) : Int) == (m : Int)) = belowB m n) := hd (natcast_beq _ _)
  go_enter Try.func148, Try.ntmps148
  go_wp2
  go_ret
  exact Ret.mk (by rw [← hf.out]; rfl)

/-- The value of the hull at n: some m below n has it. -/
def hullAt (vs : List Bool) (n : Nat) : Bool := (List.range vs.length).any fun m => vs.getD m false && (m &&& n == m)
def hullB (vs : List Bool) : List Bool := (List.range vs.length).map (hullAt vs)
def hullTo (vs : List Bool) (n k : Nat) : Bool := (List.range k).any fun m => vs.getD m false && (m &&& n == m)
theorem hullTo_succ (vs : List Bool) (n k : Nat) (h : k < vs.length) : hullTo vs n (k + 1) = (hullTo vs n k || (vs[k] && (k &&& n == k))) := by
  unfold hullTo
  rw [List.range_succ, List.any_append]
  simp [List.getD, h]
@[simp] theorem length_hullB (vs : List Bool) : (hullB vs).length = vs.length := by simp [hullB]
theorem hullB_get {vs : List Bool} {n : Nat} (h : n < vs.length) : (bools (hullB vs))[n]? = some (.bool (hullTo vs n vs.length)) := by simp [bools, hullB, h]; rfl
theorem getElem_hullB {vs : List Bool} {n : Nat} (h : n < (hullB vs).length) : (hullB vs)[n] = hullAt vs n := by simp [hullB]

set_option maxHeartbeats 1600000 in
theorem s_l30Hull (vs : List Bool) (v : Value) (w : World) (h : RdB w v vs) (hl : vs.length ≤ 1048576) :
    Calls Try.prog 145 #[v] w (RetB w 4 (hullB vs)) := by
  obtain ⟨A, c, rfl, h1, h2, ha⟩ := h.form
  obtain ⟨i0, hi, hz0, hz1, hz2⟩ := info_parts info_bool
  clear h
  go_enter Try.func145, Try.ntmps145
  go_wp2_with (at_make; refine wpList_make_full _ rfl _ _ 41 rfl w.heap.size 4 i0 (.bool false) 1 Try.underlying41 hi hz0 hz1 _ _ _ _ vs.length rfl rfl rfl rfl (by rw [hz2]; omega) (by unfold maxLen; omega) (Nat.le_refl _) ?_; intro w1 hown1 hgrow1)
  have hE : Ext w w1 := (Ext.refl w).grown hgrow1 (Nat.le_refl _) (by simp)
  have hZ : (madeCells (Value.bool false).cells (vs.length * 1)).toList = bools (List.replicate vs.length false) := by
    simp [bools, toList_madeCells_one, Value.cells]
  rw [hZ] at hown1
  clear hgrow1 hi hz0 hz1 hz2 hZ
  go_loopw [4] (fun i wr => ∃ k : Nat, k ≤ vs.length ∧ i = .int .i64 k ∧ Own wr w.heap.size 4 1 (.slice (some ⟨w.heap.size, 0, none⟩) vs.length vs.length) vs.length ((bools (hullB vs)).take k ++ (bools (List.replicate vs.length false)).drop k) ∧ Ext w wr) (fun i _ => vs.length - (intOf i).toNat)
  case atStart => exact ⟨0, by omega, rfl, by simpa using hown1, hE⟩
  case round =>
    clear hown1 hE
    obtain ⟨k, hk, rfl, ho, hx⟩ := hrel
    by_cases hlt : k < vs.length
    · go_wp2
      obtain ⟨wo, rfl⟩ : ∃ wo : World, wo = wr := ⟨_, rfl⟩
      go_loopw [5] (fun i wr => ∃ m : Nat, m ≤ vs.length ∧ i = .int .i64 m ∧ Own wr w.heap.size 4 1 (.slice (some ⟨w.heap.size, 0, none⟩) vs.length vs.length) vs.length ((bools (hullB vs)).take k ++ .bool (hullTo vs k m) :: (bools (List.replicate vs.length false)).drop (k + 1)) ∧ Ext w wr) (fun i _ => vs.length - (intOf i).toNat)
      case atStart => exact ⟨0, by omega, rfl, by rw [drop_cons (by simpa using hlt)] at ho; simpa [bools, hullTo] using ho, hx⟩
      case round =>
        clear ho hx
        obtain ⟨m, hm, rfl, ho, hx⟩ := hrel
        by_cases hltm : m < vs.length
        · obtain ⟨a, rfl, hc0⟩ := RdB.at_ ha hltm
          have hc := hx.cell hc0
          clear hc0
          obtain ⟨-, hfr, hst⟩ := own_store ho hlt
          have hcell := World.ownsRow.cellAt ho k (by omega)
          have hkl : ((bools (hullB vs)).take k).length = k := by simp; omega
          rw [List.getElem?_append_right (by omega), hkl, Nat.sub_self, List.getElem?_cons_zero] at hcell
          have hs := hullTo_succ vs k m hltm
          have hband := and64 m k (by omega) (by omega)
          have hst2 : Hid (∀ u, Own (wr.setCell ⟨w.heap.size, k, none⟩ u) w.heap.size 4 1 (.slice (some ⟨w.heap.size, 0, none⟩) vs.length vs.length) vs.length ((bools (hullB vs)).take k ++ u :: (bools (List.replicate vs.length false)).drop (k + 1))) := hd fun u => by
            have := hst.out u
            rwa [List.set_append_right _ _ (by omega), hkl, Nat.sub_self, List.set_cons_zero] at this
          have heq : (((m &&& k : Nat) : Int) == (m : Int)) = (m &&& k == m) := natcast_beq _ _
          generalize hb0 : hullTo vs k m = b0 at *
          generalize hb1 : vs[m] = b1 at *
          generalize hb2 : (m &&& k == m) = b2 at *
          have HS := hd hs
          clear hs hst hkl ho hb0 hb1 hb2
          cases b0 <;> cases b1 <;> cases b2
          all_goals
            go_wp2
            go_roundw
            case rel => exact ⟨m + 1, by omega, by go_num, by rw [HS.out]; exact hst2.out _, hx.setCell (Nat.le_refl _) _⟩
            case measure => simp [intOf]; omega
        · go_wp2
          obtain rfl : m = vs.length := by omega
          go_roundw
          case rel => exact ⟨k + 1, by omega, by go_num, by rw [List.take_add_one, hullB_get hlt, List.append_assoc]; exact ho, hx⟩
          case measure => simp [intOf]; omega
    · go_wp2
      go_ret
      obtain rfl : k = vs.length := by omega
      rw [List.take_of_length_le (by simp), List.drop_eq_nil_of_le (by simp), List.append_nil] at ho
      exact ⟨_, rfl, by unfold OwnB; rw [length_hullB]; exact ho, hx⟩