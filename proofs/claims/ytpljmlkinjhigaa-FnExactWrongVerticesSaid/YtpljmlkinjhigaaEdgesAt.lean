/-
  EdgesAt of both sides. Condition: sizes up to 2^20.
-/
import Derived.Test.YtpljmlkinjhigaaChgG
import Derived.Test.YtpljmlkinjhigaaLawC
namespace Go.Proofs.Ytpljmlkinjhigaa
open Go.RowKit
theorem edges_inv {n : Int} {es : List (Int × Int)} (h : edgesG n es = true) : ∀ e ∈ es, 0 ≤ e.1 ∧ e.1 < e.2 ∧ e.2 < n := by
  induction es with
  | nil => intro e he; simp at he
  | cons x r ih =>
    intro e he
    unfold edgesG at h
    split at h
    · rename_i hx
      rcases List.mem_cons.1 he with rfl | he
      · exact hx
      · exact ih h e he
    · cases h
theorem charges_inv {es : List (Int × Int)} {cs : List Int} : ∀ k, chargesG es k cs = true → (∀ c ∈ cs, 0 ≤ c ∧ c ≤ 1) ∧ ∀ j, j < cs.length → degB es (k + j) = true := by
  induction cs with
  | nil => intro k _; exact ⟨fun c hc => by simp at hc, fun j hj => by simp at hj⟩
  | cons x r ih =>
    intro k h
    unfold chargesG at h
    split at h
    · rename_i hx
      obtain ⟨h1, h2⟩ := ih _ h
      refine ⟨fun c hc => ?_, fun j hj => ?_⟩
      · rcases List.mem_cons.1 hc with rfl | hc
        · exact inB_iff.1 hx.1
        · exact h1 c hc
      · cases j with
        | zero => exact hx.2
        | succ j => have := h2 j (by simpa using hj); rwa [show k + (j + 1) = k + 1 + j from by omega]
    · cases h
theorem goodC_inv {g : Chg} (h : goodC g = true) : 1 ≤ g.n ∧ g.n ≤ 8 ∧ g.es.length ≤ 12 ∧ (g.cs.length : Int) = g.n ∧ (∀ e ∈ g.es, 0 ≤ e.1 ∧ e.1 < e.2 ∧ e.2 < g.n) ∧ (∀ c ∈ g.cs, 0 ≤ c ∧ c ≤ 1) ∧ ∀ j, j < g.cs.length → degB g.es j = true := by
  unfold goodC at h
  split at h
  · rename_i h1
    split at h
    · rename_i h2
      split at h
      · rename_i h3
        split at h
        · rename_i h4
          have := inB_iff.1 h1
          obtain ⟨a, b⟩ := charges_inv 0 h
          exact ⟨this.1, this.2, h2, h3, edges_inv h4, a, fun j hj => by have := b j hj; simpa using this⟩
        · cases h
      · cases h
    · cases h
  · cases h
def edgesAtB (g : Chg) (v : Int) : Bool := goodC g && inB v 0 (g.n - 1)
def edgesAtL (g : Chg) (v : Int) : List Int := if edgesAtB g v then atN g.es v g.es.length else []
theorem edgesAt_bd (g : Chg) (v : Int) (b : Bd_Charged g) : Bd_IntS (edgesAtL g v) := by
  unfold edgesAtL Bd_IntS
  split
  · exact Nat.le_trans (atN_len _ _ _) b.1
  · simp
/-- A call returns a new slice of the numbers xs and b, in blocks of its own. -/
def RetL2 (w : World) (xs : List Int) (b : Bool) : Ending → World → Prop := fun en w' => ∃ u, en = .returned (.tuple #[u, .bool b]) ∧ Own_IntS w' w.heap.size w'.heap.size u xs ∧ Ext w w'
theorem RetL2.mk {w w' : World} {xs : List Int} {b b' : Bool} {v : Value} (hb : b' = b) (h : OwnI w' w.heap.size 3 v xs) (hx : Ext w w') : RetL2 w xs b (.returned (.tuple #[v, .bool b'])) w' := ⟨v, by rw [hb], .mk h, hx⟩
set_option maxRecDepth 100000 in
set_option maxHeartbeats 800000 in
theorem s_EdgesAt (g : Chg) (gv : Value) (v : Int) (w : World) (h : RdC w gv g) (b : Bd_Charged g) (_ : I64_Charged g) (_hv : I64 v) : Calls Try.prog 20 #[gv, .int .i64 v] w (RetL2 w (edgesAtL g v) (edgesAtB g v)) := by
  have HG := hd h
  have HB := hd b
  obtain ⟨A, c, A', c', rfl⟩ := h.form
  clear h b
  obtain ⟨q, hq⟩ : ∃ q, goodC g = q := ⟨_, rfl⟩
  obtain ⟨r, hr⟩ : ∃ r, inB v 0 (g.n - 1) = r := ⟨_, rfl⟩
  have HQ := hd hq
  have HR := hd hr
  have HGI : Hid (q = true → 1 ≤ g.n ∧ g.n ≤ 8) := hd fun e => by have := goodC_inv (hq.trans e); omega
  clear hq hr
  go_enter Try.func20, Try.ntmps20
  go_wp2_with fail
  refine (s_l27Good g _ _ (HG.out.ext (Ext.new _ _))).mono ?_
  rw [HQ.out]
  rintro e w1 ⟨rfl, hx1⟩
  obtain ⟨k0, k1, k2⟩ := blk3 (hx1.heap (blk_new (w := w) (.cells #[.int .i64 g.n, .slice A g.es.length c, .slice A' g.cs.length c'] 40) rfl))
  cases q
  · go_wp2
    go_ret2
    exact RetL2.mk (by unfold edgesAtB; rw [HQ.out]; rfl) (by unfold edgesAtL edgesAtB; rw [HQ.out]; exact ownI_emp rfl (by have := hx1.size; simp at this; omega)) (hx1.box.alloc _)
  · obtain ⟨n1, n2⟩ := HGI.out rfl
    cases r
    · go_wp2_with (go_at_call 63; refine (rt (s_l1In _ _ _ _) HR).mono ?_; rintro e w2 ⟨rfl, rfl⟩)
      go_ret2
      exact RetL2.mk (by unfold edgesAtB; rw [HQ.out, HR.out]; rfl) (by unfold edgesAtL edgesAtB; rw [HQ.out, HR.out]; exact ownI_emp rfl (by have := hx1.size; simp at this; omega)) (hx1.box.alloc _)
    · go_wp2_with (go_at_call 63; refine (rt (s_l1In _ _ _ _) HR).mono ?_; rintro e w2 ⟨rfl, rfl⟩)
      refine (s_l27At g _ v _ (HG.out.ext hx1.box) (by have := HB.out.1; omega)).mono ?_
      rintro e w2 ⟨u, rfl, hu, hx2⟩
      go_wp2
      go_ret2
      exact RetL2.mk (by unfold edgesAtB; rw [HQ.out, HR.out]; rfl) (by unfold edgesAtL edgesAtB; rw [HQ.out, HR.out]; exact own_rebase hu hx1.box.size) (hx1.box.trans hx2)
theorem i_isVertex (g : Chg) (v : Int) (A A' : Option Addr) (c c' : Nat) (w : World) {r : Bool} (hr : inB v 0 (g.n - 1) = r) (h1 : 1 ≤ g.n) (h2 : g.n ≤ 8) :
    Calls Try.prog 67 #[.agg #[.int .i64 g.n, .slice A g.es.length c, .slice A' g.cs.length c'], .int .i64 v] w (RetX w (.bool r)) := by
  have HR := hd hr
  clear hr
  go_enter Try.func67, Try.ntmps67
  go_wp2_with fail
  refine (rt (i_within _ _ _ _) HR).mono ?_
  rintro e w1 ⟨rfl, rfl⟩
  go_wp2
  go_ret
  exact RetX.mk rfl (Ext.new _ _)
set_option maxRecDepth 100000 in
set_option maxHeartbeats 800000 in
theorem i_EdgesAt (g : Chg) (gv : Value) (v : Int) (w : World) (h : RdC w gv g) (b : Bd_Charged g) (_ : I64_Charged g) (_hv : I64 v) : Calls Try.prog 22 #[gv, .int .i64 v] w (RetL2 w (edgesAtL g v) (edgesAtB g v)) := by
  have HG := hd h
  have HB := hd b
  obtain ⟨A, c, A', c', rfl⟩ := h.form
  clear h b
  obtain ⟨q, hq⟩ : ∃ q, goodC g = q := ⟨_, rfl⟩
  obtain ⟨r, hr⟩ : ∃ r, inB v 0 (g.n - 1) = r := ⟨_, rfl⟩
  have HQ := hd hq
  have HR := hd hr
  have HGI : Hid (q = true → 1 ≤ g.n ∧ g.n ≤ 8) := hd fun e => by have := goodC_inv (hq.trans e); omega
  clear hq hr
  go_enter Try.func22, Try.ntmps22
  go_wp2_with fail
  refine (i_IsCharged g _ _ (HG.out.ext (Ext.new _ _))).mono ?_
  rw [HQ.out]
  rintro e w1 ⟨rfl, hx1⟩
  obtain ⟨k0, k1, k2⟩ := blk3 (hx1.heap (blk_new (w := w) (.cells #[.int .i64 g.n, .slice A g.es.length c, .slice A' g.cs.length c'] 40) rfl))
  cases q
  · go_wp2
    go_ret2
    exact RetL2.mk (by unfold edgesAtB; rw [HQ.out]; rfl) (by unfold edgesAtL edgesAtB; rw [HQ.out]; exact ownI_nil _ _ _) hx1.box
  · obtain ⟨n1, n2⟩ := HGI.out rfl
    cases r
    · go_wp2_with (go_at_call 67; refine (i_isVertex g v _ _ _ _ _ HR.out n1 n2).mono ?_; rintro e w2 ⟨rfl, hx2⟩)
      go_ret2
      exact RetL2.mk (by unfold edgesAtB; rw [HQ.out, HR.out]; rfl) (by unfold edgesAtL edgesAtB; rw [HQ.out, HR.out]; exact ownI_nil _ _ _) (hx1.box.trans hx2)
    · go_wp2_with fail
      refine (i_isVertex g v _ _ _ _ _ HR.out n1 n2).mono ?_
      rintro e w2 ⟨rfl, hx2⟩
      clear k0 k1 k2
      obtain ⟨k0, k1, k2⟩ := blk3 ((hx1.trans hx2).heap (blk_new (w := w) (.cells #[.int .i64 g.n, .slice A g.es.length c, .slice A' g.cs.length c'] 40) rfl))
      go_wp2_with fail
      refine (i_at g _ v _ (HG.out.ext (hx1.box.trans hx2)) (by have := HB.out.1; omega)).mono ?_
      rintro e w3 ⟨u, rfl, hu, hx3⟩
      go_wp2
      go_ret2
      exact RetL2.mk (by unfold edgesAtB; rw [HQ.out, HR.out]; rfl) (by unfold edgesAtL edgesAtB; rw [HQ.out, HR.out]; exact own_rebase hu (hx1.box.trans hx2).size) ((hx1.box.trans hx2).trans hx3)
end Go.Proofs.Ytpljmlkinjhigaa
