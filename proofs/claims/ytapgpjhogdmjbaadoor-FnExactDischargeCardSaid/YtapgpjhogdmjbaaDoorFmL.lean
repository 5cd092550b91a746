/-
  The laws' helpers on slices of strings: measure, copy; the reading of such an argument. Conditions: sizes up to 2^20.
-/
import Derived.Test.YtapgpjhogdmjbaaDoorStrS
import Derived.Test.YtapgpjhogdmjbaaDoorFrame
namespace Go.Proofs.YtapgpjhogdmjbaaDoor
open Go.RowKit
def I64_StringS (xs : List (List UInt8)) : Prop := ∀ x ∈ xs, x.length ≤ 9223372036854775807
def szSgo : List (List UInt8) → Int → Int
  | [], left => left
  | x :: r, left => if left - (x.length : Int) < 0 then -1 else szSgo r (left - x.length)
def sz_StringS (xs : List (List UInt8)) (left : Int) : Int := if left - (xs.length : Int) < 0 then -1 else szSgo xs (left - xs.length)
theorem szSgo_bd (xs : List (List UInt8)) : ∀ left : Int, -1 ≤ left → left ≤ 1048576 → -1 ≤ szSgo xs left ∧ szSgo xs left ≤ 1048576 := by
  induction xs with
  | nil => intro left h1 h2; exact ⟨h1, h2⟩
  | cons r rs ih =>
    intro left h1 h2
    unfold szSgo
    split
    · omega
    · exact ih _ (by omega) (by omega)
theorem sz_StringS_bd (xs : List (List UInt8)) (left : Int) (h : left ≤ 1048576) : -1 ≤ sz_StringS xs left ∧ sz_StringS xs left ≤ 1048576 := by
  unfold sz_StringS
  split
  · omega
  · exact szSgo_bd _ _ (by omega) (by omega)
theorem sz_StringS_ok {xs : List (List UInt8)} {left : Int} (h : ¬ sz_StringS xs left < 0) (hl : left ≤ 1048576) : Bd_StringS xs := by
  unfold sz_StringS at h
  unfold Bd_StringS
  split at h
  · omega
  · omega
set_option maxHeartbeats 800000 in
theorem u_sz_StringS (xs : List (List UInt8)) (v : Value) (left : Int) (w : World) (h : Rd_StringS w v xs) (hi : Hid (I64_StringS xs)) (hl : 0 ≤ left) (hl' : left ≤ 1048576) :
    Calls Tryd.prog 4 #[v, .int .i64 left] w (RetX w (.int .i64 (sz_StringS xs left))) := by
  obtain ⟨A, c, rfl, h1, h2, ha⟩ := h.form
  clear h
  unfold maxLen at h2
  go_enter Tryd.func4, Tryd.ntmps4
  by_cases h0 : left - (xs.length : Int) < 0
  · go_wp2
    go_ret
    exact RetX.mk (by unfold sz_StringS; rw [if_pos h0]; rfl) (Ext.refl _)
  · have HF : Hid (sz_StringS xs left = szSgo xs (left - xs.length)) := hd (by unfold sz_StringS; rw [if_neg h0])
    go_wp2
    go_loopw [5, 1] (fun i m wr => ∃ (k : Nat) (l : Int), k ≤ xs.length ∧ 0 ≤ l ∧ l ≤ 1048576 ∧ i = .int .i64 k ∧ m = .int .i64 l ∧ Hid (sz_StringS xs left = szSgo (xs.drop k) l) ∧ Ext w wr) (fun i _ _ => xs.length - (intOf i).toNat)
    case atStart => exact ⟨0, _, by omega, by omega, by omega, rfl, rfl, HF, Ext.refl _⟩
    case round =>
      clear HF
      obtain ⟨k, l, hk, hl0, hl1, rfl, rfl, HR, hx⟩ := hrel
      have HX := hd hx
      clear hx
      by_cases hlt : k < xs.length
      · obtain ⟨a, rfl, hc0⟩ := Rd_StringS.at_ ha hlt
        have hc := HX.out.cell hc0
        clear hc0
        have hdc : xs.drop k = xs[k] :: xs.drop (k + 1) := List.drop_eq_getElem_cons hlt
        rw [hdc] at HR
        have hyl := hi.out _ (List.getElem_mem hlt)
        clear hdc
        generalize xs[k] = y at *
        by_cases h3 : l - (y.length : Int) < 0
        · have HZ : Hid (sz_StringS xs left = -1) := hd (by rw [HR.out, szSgo, if_pos h3])
          go_wp2
          go_ret
          exact RetX.mk (by rw [HZ.out]; rfl) HX.out
        · have HZ : Hid (sz_StringS xs left = szSgo (xs.drop (k + 1)) (l - y.length)) := hd (by rw [HR.out, szSgo, if_neg h3])
          go_wp2
          go_roundw
          case rel => exact ⟨k + 1, l - y.length, by omega, by omega, by omega, by go_num, rfl, HZ, HX.out⟩
          case measure => simp [intOf]; omega
      · go_wp2
        go_ret
        exact RetX.mk (by rw [HR.out, List.drop_eq_nil_of_le (by omega)]; rfl) HX.out
theorem u_to_StringS (xs : List (List UInt8)) (v : Value) (w : World) (h : Rd_StringS w v xs) (hl : Bd_StringS xs) :
    Calls Tryd.prog 7 #[v] w (fun e w' => ∃ u, e = .returned u ∧ Own_StringS w' w.heap.size w'.heap.size u xs ∧ Ext w w') := by
  obtain ⟨A, c, rfl, h1, h2, ha⟩ := h.form
  obtain ⟨i0, hi, hz0, hz1, hz2⟩ := info_parts info_string
  unfold Bd_StringS at hl
  clear h
  go_enter Tryd.func7, Tryd.ntmps7
  go_wp2_with (at_make; refine wpList_make_full _ rfl _ _ 22 rfl w.heap.size 9 i0 (.string .empty) 1 Tryd.underlying22 hi hz0 hz1 _ _ _ _ xs.length rfl rfl rfl rfl (by rw [hz2]; omega) (by unfold maxLen; omega) (Nat.le_refl _) ?_; intro w1 hown1 hgrow1)
  have hE : Ext w w1 := (Ext.refl w).grown hgrow1 (Nat.le_refl _) (by simp)
  have hZ : (madeCells (Value.string .empty).cells (xs.length * 1)).toList.length = (strs xs).length := by simp [size_madeCells]
  generalize (madeCells (Value.string .empty).cells (xs.length * 1)).toList = Z at *
  have HZ := hd hZ
  clear hgrow1 hZ hi hz0 hz1 hz2
  go_loopw [4] (fun i wr => ∃ k : Nat, k ≤ xs.length ∧ i = .int .i64 k ∧ Own wr w.heap.size 9 1 (.slice (some ⟨w.heap.size, 0, none⟩) xs.length xs.length) xs.length ((strs xs).take k ++ Z.drop k) ∧ Ext w wr) (fun i _ => xs.length - (intOf i).toNat)
  case atStart => exact ⟨0, by omega, rfl, by simpa using hown1, hE⟩
  case round =>
    obtain ⟨k, hk, rfl, ho, hx⟩ := hrel
    by_cases hlt : k < xs.length
    · obtain ⟨a, rfl, hc0⟩ := Rd_StringS.at_ ha hlt
      have hc := hx.cell hc0
      obtain ⟨⟨u0, hcell⟩, hfr, hst⟩ := own_store ho hlt
      clear hc0
      go_wp2
      go_roundw
      case rel => exact ⟨k + 1, by omega, by go_num, by rw [← splice_set (strs_get hlt) HZ.out]; exact hst.out _, hx.setCell (Nat.le_refl _) _⟩
      case measure => simp [intOf]; omega
    · go_wp2
      go_ret
      obtain rfl : k = xs.length := by omega
      rw [List.take_of_length_le (by simp), List.drop_eq_nil_of_le (by rw [HZ.out]; simp), List.append_nil] at ho
      exact ⟨_, rfl, ⟨ho, fun b hb => (own_blocks ho b hb).2⟩, hx⟩
theorem list_strs {cs : List Value} (h : ∀ u ∈ cs, ∃ s : ByteArray, u = Value.string s ∧ s.size ≤ 9223372036854775807) : ∃ xs : List (List UInt8), cs = strs xs ∧ I64_StringS xs := by
  induction cs with
  | nil => exact ⟨[], rfl, fun x hx => by cases hx⟩
  | cons u cs ih =>
    obtain ⟨xs, rfl, hx⟩ := ih fun u hu => h u (List.mem_cons_of_mem _ hu)
    obtain ⟨s, rfl, hs⟩ := h u (List.mem_cons_self ..)
    refine ⟨s.data.toList :: xs, ?_, fun x hx' => ?_⟩
    · show _ = encStr s.data.toList :: strs xs
      rw [enc_of]
    · rcases List.mem_cons.1 hx' with rfl | hx'
      · simpa using hs
      · exact hx x hx'
section
open Go.ChangeShapes Go.WideShapes Go.ChangeAt Go.Deep Go.Joins
variable {H : Type} {enc : TypeId × Value → H} {P : Program} {W : World} {base : Nat} {spare : Nat → Bool} {held : Bool}
theorem read_strings {t e : TypeId} {fuel : Nat} {v : Value} {x : DataW H × List MemPlace} (ht : P.underlying t = some (.slice e)) (he : P.underlying e = some .string) (hc : P.cellsOf e = 1) (h : DataW.trod enc P W base spare held fuel t [v] = some x) :
    ∃ xs, Rd_StringS W v xs ∧ I64_StringS xs := by
  obtain ⟨cs, hr, hu⟩ := read_slice1 ht hc h
  obtain ⟨xs, rfl, hx⟩ := list_strs (cs := cs) fun u h => by
    obtain ⟨n, y, hy⟩ := hu u h
    obtain ⟨s, hz, _, hw⟩ := DataW.trod_string he hy
    injection hz with hz
    exact ⟨s, hz, by unfold maxLen at hw; omega⟩
  exact ⟨xs, by simpa [Rd_StringS] using hr, hx⟩
end
end Go.Proofs.YtapgpjhogdmjbaaDoor
