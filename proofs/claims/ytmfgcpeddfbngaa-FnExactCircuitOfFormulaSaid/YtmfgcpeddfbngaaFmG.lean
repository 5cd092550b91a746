/-
  Sorting slices of formulas. Condition: sizes up to 2^20.
-/
import Derived.Test.YtmfgcpeddfbngaaFmG0
import Derived.Test.YtmfgcpeddfbngaaSortF
import Derived.Shelf.SlSortCmp.NoneTotal
namespace Go.Proofs.Ytmfgcpeddfbngaa
open Go.RowKit Go.Sort
theorem enters_compareFormulas : ∀ args w, (callFunc 58 args).run Try.prog w = .ok (.enter 58 args) w := fun args w => by kernel_rfl
theorem lays_compareFormulas (blk off size : Nat) (w : World) : CmpLays1 Try.prog 58 #[] encStr cmpL blk off size w := fun _ _ _ _ x y => i_compareFormulas x y _
theorem slices_SortF (xs : List Bs) (v : Value) (w : World) (lo : Nat) (h : OwnS w lo v xs) (hl : xs.length ≤ 1073741824) :
    Calls Try.prog 122 #[v, .func (.func 58) #[] #[]] w (fun e w' => e = .returned (.tuple #[]) ∧ OwnS w' lo v (xs.mergeSort leB) ∧ w.grownBy w' v.ownBlock) := by
  have hlm : (xs.mergeSort leB).length = xs.length := List.length_mergeSort xs
  have h0 := h
  rcases h.2 with ⟨rfl, hn⟩ | ⟨g, cap, cur, rfl, hb, hg, hnc, hcm, hcs, ht⟩
  · obtain rfl : xs = [] := List.eq_nil_of_length_eq_zero hn
    refine (AnyF.slices_SortFunc_none Try.sortFuncS0 none 0 _ w).mono ?_
    rintro e w' ⟨rfl, rfl⟩
    exact ⟨rfl, by simpa using h0, grown_refl _ _⟩
  · have hH : Holds encStr w g 0 xs.toArray := holds_of_block hg (by simpa [strs] using ht)
    refine (Any.slices_SortFunc_total Try.sortFuncSL encStr (fun _ => rfl) cmpL (by rw [cmpL_ltf]; exact befB_swo) 58 #[] g 0 cap xs.toArray w enters_compareFormulas (lays_compareFormulas _ _ _ _) hH (Array.getElem?_eq_some_iff.1 hg).1 (by simp; omega) (fun x y h1 h2 => befB_tot (by rw [← cmpL_lt]; exact h1) (by rw [← cmpL_lt]; exact h2))).mono ?_
    rintro e w' ⟨rfl, n, os, rfl⟩
    rw [cmpL_ltf]
    refine ⟨rfl, ?_, grownBy_sorted _⟩
    have := ownsRow_sorted (n := n) (os := os) (base := lo) hlm hb hg hnc hcm hcs
    unfold OwnS
    rw [hlm]
    exact this
end Go.Proofs.Ytmfgcpeddfbngaa
