import Derived.Test.YtbdcomkbpapcaaaGreatMg9
import Derived.Test.YtbdcomkbpapcaaaGreatApp2
import Derived.Lib.OwnBridge
import Derived.Sort.OwnSortedInts
/-
  slices.Delete at numbers; a list without the element at an index. Condition: list lengths up to 2^20.
-/

namespace Go.Proofs.YtbdcomkbpapcaaaGreat
open Go.RowKit Go.Shelf
theorem slices_DeleteI (xs : List Int) (i j : Nat) (v : Value) (w : World) (lo : Nat) (h : OwnI w lo 3 v xs) (hij : i ≤ j) (hj : j ≤ xs.length) (h0 : 1 ≤ xs.length) :
    Calls Tryz.prog 78 #[v, .int .i64 i, .int .i64 j] w (fun e w' => ∃ v', e = .returned v' ∧ OwnI w' lo 3 v' (xs.take i ++ xs.drop j) ∧ w.grownBy w' v.ownBlock ∧ v'.ownBlock = v.ownBlock) := by
  have h0' := h
  rcases h.2 with ⟨rfl, hn⟩ | ⟨g, cap, cur, rfl, hb, hg, hnc, hcm, hcs, ht⟩
  · omega
  · have hH : Sort.Holds (Value.int .i64) w g 0 xs.toArray := holds_of_blockI hg (by simpa [ints] using ht)
    refine (sl_Delete g 0 cap i j xs w hH hnc (by unfold maxLen at hcm; omega) hij hj).mono ?_
    rintro e w' ⟨rfl, q, rfl⟩
    have hc := Lib.ownsRow_putRow (q := q) (k := xs.length - (j - i)) (ys := xs.take i ++ xs.drop j ++ List.replicate (j - i) 0) h0' (by simp; omega) (by omega)
    have hl : (xs.take i ++ xs.drop j).length = xs.length - (j - i) := by simp; omega
    have hcut : List.take (xs.length - (j - i)) (xs.take i ++ xs.drop j ++ List.replicate (j - i) (0 : Int)) = xs.take i ++ xs.drop j := by
      rw [← hl]
      exact List.take_left
    rw [hcut] at hc
    refine ⟨_, rfl, by unfold OwnI; rw [hl]; exact hc, ?_, rfl⟩
    exact ⟨rfl, rfl, rfl, by simp [Sort.putRow, Sort.mapBlock, Sort.ahead], fun k hk hne => by
      have : g ≠ k := fun e => hne (by rw [e]; rfl)
      simp [Sort.putRow, Sort.mapBlock, Sort.ahead, Array.getElem?_modify, this]⟩
theorem i_without (cs : List Int) (v : Value) (b : Nat) (w : World) (h : RdI w v cs) (hl : cs.length ≤ 1048576) (hb : b < cs.length) :
    Calls Tryz.prog 57 #[v, .int .i64 b] w (RetI w 3 (cs.take b ++ cs.drop (b + 1))) := by
  go_enter Tryz.func57, Tryz.ntmps57
  go_wp2_with fail
  refine (slices_Clone cs _ _ h (by omega)).mono ?_
  rintro e w1 ⟨u, rfl, hu, hx⟩
  have HU := hd hu
  have HX := hd hx
  clear hu hx
  go_wp2_with fail
  refine (slices_DeleteI cs b (b + 1) u w1 _ HU.out (by omega) (by omega) (by omega)).mono ?_
  rintro e w2 ⟨v', rfl, ho, hg, -⟩
  go_wp2
  go_ret
  exact ⟨_, rfl, ho, ext_appS HX.out hg fun g hg' => (own_blocks HU.out g hg').1⟩
end Go.Proofs.YtbdcomkbpapcaaaGreat
