/-
  A region that draws its order, whose last store waits for all: a condition on the world holds behind every operation but that store. No condition.
-/
import Derived.Test.YtapgpjhogdmjbaaDoorBase
import Derived.Deep.RegionHeld3
import Derived.StillTail
namespace Go.Proofs.YtapgpjhogdmjbaaDoor
open Go.RowKit
section
variable {P : Program} {ops : Array Oper} {Q : Exit → Act → World → Prop} {md : Region.Mode} {S : World → Prop} {m : Nat}
/-- Whatever order is picked; S holds behind every operation but number m. -/
def ordF (P : Program) (md : Region.Mode) (ops : Array Oper) (Q : Exit → Act → World → Prop) (S : World → Prop) (m : Nat) : Nat → Array Bool → Act → World → Prop
  | 0, listed, a, w => Region.ready md ops listed = [] ∧ Q .normal a w
  | f + 1, listed, a, w => (Region.ready md ops listed = [] → Q .normal a w) ∧ ∀ i ∈ Region.ready md ops listed, wpOp P ops Q i (fun a' w' => (i ≠ m → S w') ∧ ordF P md ops Q S m f (listed.setIfInBounds i true) a' w') a w
theorem ordF_any : ∀ (f : Nat) (listed : Array Bool) (a : Act) (w : World), ordF P md ops Q S m f listed a w → wpAny P md ops Q f listed a w
  | 0, _, _, _, h => h
  | f + 1, _, _, _, h => ⟨h.1, fun i hi => wpOp_mono (fun a' w' h' => ordF_any f _ a' w' h'.2) (h.2 i hi)⟩
theorem ordF_first {i : Nat} {oi : Oper} {v : Value} (hi : ops[i]? = some oi) (hsel : ∀ (j : Nat) (o : Oper) cs b, ops[j]? = some o → o.op ≠ .select cs b)
    (hQ : ∀ c a w, Q (.panic c) (a.put oi.dst v) w → Q (.panic c) a w) (hs : Region.sinkB md ops m = true) (hc : Region.chainB md ops m = true) (hn : m < ops.size) (him : i < m) :
    ∀ (f : Nat) (listed : Array Bool) (a : Act) (w : World), HeadInv md ops m listed →
      (∀ j oj, ops[j]? = some oj → j ≠ i → listed.getD j true = false → (∀ e ∈ oj.after, Region.binds md e = true → e.on ≠ i) → oi.apart ops oj = true) →
      i ∈ Region.ready md ops listed → YieldsIf P ops S oi v a → S w →
      ordF P md ops Q S m f (listed.setIfInBounds i true) (a.put oi.dst v) w → ordF P md ops Q S m (f + 1) listed a w
  | 0, listed, a, w, inv, _, hr, hy, hS, H => by
    refine ⟨fun h => (by rw [h] at hr; cases hr), fun j hj => ?_⟩
    by_cases hji : j = i
    · subst hji
      exact hy.wpOp hi hS ⟨fun _ => hS, H⟩
    · have h0 := ready_mono hj hji
      rw [H.1] at h0
      cases h0
  | f + 1, listed, a, w, inv, hfree, hr, hy, hS, H => by
    have hun := (mem_ready.1 hr).1
    refine ⟨fun h => (by rw [h] at hr; cases hr), fun j hj => ?_⟩
    by_cases hji : j = i
    · subst hji
      exact hy.wpOp hi hS ⟨fun _ => hS, H⟩
    · have hjm : j < m := by
        rcases Nat.lt_or_ge j m with h | h
        · exact h
        · exact absurd hj (tail_waits hs hc hn inv _ i rfl him hun j h)
      obtain ⟨hjun, oj, hoj, hall⟩ := mem_ready.1 hj
      have hnot : ∀ e ∈ oj.after, Region.binds md e = true → e.on ≠ i := fun e he hb heq => by
        have h1 := hall e he hb
        rw [heq, getD_both hun] at h1
        cases h1
      have h2 := wpOp_putIf hoj (hfree j oj hoj hji hjun hnot) (fun cs b => hsel i oi cs b hi) (fun cs b => hsel j oj cs b hoj) hQ hy (H.2 j (ready_mono hj hji))
      refine wpOp_mono (fun a' w' h3 => ⟨fun _ => h3.2.1 (by omega), ordF_first hi hsel hQ hs hc hn him f (listed.setIfInBounds j true) a' w' (inv.set hj hjm) (fun k ok hk hki hku hno => ?_) (ready_mono hr (Ne.symm hji)) h3.1 (h3.2.1 (by omega)) ?_⟩) h2
      · refine hfree k ok hk hki ?_ hno
        by_cases hjk : j = k
        · subst hjk; exact hjun
        · rw [getD_set_ne true hjk] at hku; exact hku
      · rw [Array.setIfInBounds_comm _ _ hji]
        exact h3.2.2
def ordG (P : Program) (md : Region.Mode) (ops : Array Oper) (Q : Exit → Act → World → Prop) (S : World → Prop) (m f : Nat) (listed : Array Bool) (a : Act) (w : World) : Prop := HeadInv md ops m listed → ordF P md ops Q S m f listed a w
def sinkOk (md : Region.Mode) (ops : Array Oper) (m : Nat) : Bool := Region.noSelect ops && Region.sinkB md ops m && Region.chainB md ops m && decide (m < ops.size)
def takeOk (md : Region.Mode) (ops : Array Oper) (m : Nat) (listed : Array Bool) (i : Nat) : Bool := sinkOk md ops m && Region.free md ops listed i && (Region.ready md ops listed).contains i && decide (i < m)
theorem ordG_take (i : Nat) {oi : Oper} {v : Value} {f : Nat} {listed : Array Bool} {a : Act} {w : World} (hi : ops[i]? = some oi) (hB : takeOk md ops m listed i = true)
    (hQ : ∀ c a w, Q (.panic c) (a.put oi.dst v) w → Q (.panic c) a w) (hy : YieldsIf P ops S oi v a) (hS : S w)
    (h : ordG P md ops Q S m f (listed.setIfInBounds i true) (a.put oi.dst v) w) : ordG P md ops Q S m (f + 1) listed a w := fun inv => by
  simp only [takeOk, sinkOk, Bool.and_eq_true, decide_eq_true_eq] at hB
  obtain ⟨⟨⟨⟨⟨⟨h1, h2⟩, h3⟩, h4⟩, h5⟩, h6⟩, h7⟩ := hB
  have h6' : i ∈ Region.ready md ops listed := by simpa using h6
  exact ordF_first hi (Region.noSelect_spec h1) hQ h2 h3 h4 h7 f listed a w inv (Region.free_spec hi h5) h6' hy hS (h (inv.set h6' h7))
theorem ordG_all {rs : List Nat} {f : Nat} {listed : Array Bool} {a : Act} {w : World} (hr : Region.ready md ops listed = rs) (hne : rs ≠ []) (hm : ∀ i ∈ rs, i < m)
    (h : ∀ i ∈ rs, wpOp P ops Q i (fun a' w' => S w' ∧ ordG P md ops Q S m f (listed.setIfInBounds i true) a' w') a w) : ordG P md ops Q S m (f + 1) listed a w := fun inv =>
  ⟨fun h0 => absurd (hr ▸ h0) hne, fun i hi => wpOp_mono (fun _ _ h' => ⟨fun _ => h'.1, h'.2 (inv.set hi (hm i (hr ▸ hi)))⟩) (h i (hr ▸ hi))⟩
theorem ordG_last {f : Nat} {listed : Array Bool} {a : Act} {w : World} (hr : Region.ready md ops listed = [m]) (hr2 : Region.ready md ops (listed.setIfInBounds m true) = [])
    (h : wpOp P ops Q m (fun a' w' => Q .normal a' w') a w) : ordG P md ops Q S m (f + 1) listed a w := fun _ =>
  ⟨(fun h0 => by rw [hr] at h0; cases h0), fun i hi => by
    rw [hr] at hi
    obtain rfl : i = m := by simpa using hi
    refine wpOp_mono (fun a' w' h' => ⟨fun h => absurd rfl h, ?_⟩) h
    cases f with
    | zero => exact ⟨hr2, h'⟩
    | succ f => exact ⟨fun _ => h', fun j hj => by rw [hr2] at hj; cases hj⟩⟩
/-- One of those that may come up, written out. -/
theorem ordG_cons {f : Nat} {listed : Array Bool} {a : Act} {w : World} {i : Nat} {o : Oper} {rs : List Nat} (ho : ops[i]? = some o)
    (h : ∀ K' : Act → World → Prop, Shut (∀ a w, S w → ordG P md ops Q S m f (listed.setIfInBounds i true) a w → K' a w) → if Region.wanted o (yielded ops a.tmps) = true then Oper.wp P o a w K' Q else K' (a.put o.dst undef) w)
    (hs : ∀ j ∈ rs, wpOp P ops Q j (fun a' w' => S w' ∧ ordG P md ops Q S m f (listed.setIfInBounds j true) a' w') a w) :
    ∀ j ∈ i :: rs, wpOp P ops Q j (fun a' w' => S w' ∧ ordG P md ops Q S m f (listed.setIfInBounds j true) a' w') a w := fun j hj => by
  rcases List.mem_cons.1 hj with rfl | hj
  · exact wpOp_step ho fun K' hK => h K' fun a w hS hW => hK a w ⟨hS, hW⟩
  · exact hs j hj
theorem ordG_nil {f : Nat} {listed : Array Bool} {a : Act} {w : World} : ∀ j ∈ ([] : List Nat), wpOp P ops Q j (fun a' w' => S w' ∧ ordG P md ops Q S m f (listed.setIfInBounds j true) a' w') a w := fun _ h => by cases h
theorem wp_region_sink (S : World → Prop) (m k : Nat) (L : Array Bool) {id : Nat} {a : Act} {w : World} (hm : P.follows .mixedOrders = true) (hk : ops.size = k) (hL : Array.replicate k false = L) (h : ordG P .any ops Q S m k L a w.drew) : (Code.region id ops true).wp P Q a w := by
  subst hL
  subst hk
  exact wp_region_any hm (ordF_any _ _ _ _ (h ⟨by simp, fun j oj _ hl => (by rw [getD_replicate_false] at hl; cases hl), fun t _ ht => getD_in (by simpa using ht) (getD_replicate_false _ _)⟩))
end
end Go.Proofs.YtapgpjhogdmjbaaDoor
