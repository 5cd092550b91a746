import Derived.Test.YtbdcomkbpapcaaaFpP
/-
  The parts of a formula as trees, and the last number that was given to a text. No condition.
-/

namespace Go.Proofs.Ytbdcomkbpapcaaa
open Go.RowKit Go.Sort
/-- A text's tree. -/
def treeB (x : Bs) : Fm := match pL x with
  | some (f, _) => f
  | none => .leaf 48
theorem treeB_txt {f : Fm} (hw : WfF f = true) : treeB (txt f) = f := by
  unfold treeB
  rw [pL_iff.2 ⟨(List.append_nil _).symm, hw⟩]
theorem subs_wf : ∀ (f : Fm), WfF f = true → ∀ g ∈ subs f, WfF g = true
  | .leaf c, h, g, hg => by rw [List.mem_singleton.1 hg]; exact h
  | .neg a, h, g, hg => by
    rcases List.mem_cons.1 hg with rfl | hg
    · exact h
    · exact subs_wf a h g hg
  | .bin o a b, h, g, hg => by
    obtain ⟨_, h1, h2⟩ := wf_bin h
    rcases List.mem_cons.1 hg with rfl | hg
    · exact h
    · rcases List.mem_append.1 hg with hg | hg
      · exact subs_wf a h1 g hg
      · exact subs_wf b h2 g hg
theorem subs_txt : ∀ (f g : Fm), g ∈ subs f → (txt g).length ≤ (txt f).length
  | .leaf c, g, hg => by rw [List.mem_singleton.1 hg]; exact Nat.le_refl _
  | .neg a, g, hg => by
    rcases List.mem_cons.1 hg with rfl | hg
    · exact Nat.le_refl _
    · have := subs_txt a g hg; simp [txt]; omega
  | .bin o a b, g, hg => by
    rcases List.mem_cons.1 hg with rfl | hg
    · exact Nat.le_refl _
    · rcases List.mem_append.1 hg with hg | hg
      · have := subs_txt a g hg; simp [txt]; omega
      · have := subs_txt b g hg; simp [txt]; omega
/-- The trees of all different parts, in order. -/
def partsT (f : Fm) : List Fm := (partsB f).map treeB
theorem partsT_mem {f : Fm} (hw : WfF f = true) {x : Bs} (hx : x ∈ partsB f) : txt (treeB x) = x ∧ WfF (treeB x) = true ∧ (txt (treeB x)).length ≤ (txt f).length := by
  obtain ⟨g, hg, rfl⟩ := List.mem_map.1 (((sortB_spec _).2 x).1 hx)
  have h1 := subs_wf f hw g hg
  rw [treeB_txt h1]
  exact ⟨rfl, h1, subs_txt f g hg⟩
@[simp] theorem partsT_len (f : Fm) : (partsT f).length = (partsB f).length := by simp [partsT]
def kA : Fm → Bs
  | .leaf _ => []
  | .neg a => txt a
  | .bin _ a _ => txt a
def kB : Fm → Bs
  | .leaf _ => []
  | .neg _ => []
  | .bin _ _ b => txt b
theorem kidA_eq (y : Fm) : kidA y = ⟨(kA y).toArray⟩ := by cases y <;> rfl
theorem kidB_eq (y : Fm) : kidB y = ⟨(kB y).toArray⟩ := by cases y <;> rfl
/-- The last place that was given to a text, or 0. -/
def lkB (acc : List (Bs × Int)) (t : Bs) : Int := acc.foldl (fun r p => if p.1 == t then p.2 else r) 0
theorem lkB_snoc (acc : List (Bs × Int)) (p : Bs × Int) (t : Bs) : lkB (acc ++ [p]) t = if p.1 == t then p.2 else lkB acc t := by simp [lkB, List.foldl_append]
theorem lkB_bd (acc : List (Bs × Int)) (t : Bs) (h : ∀ p ∈ acc, 0 ≤ p.2 ∧ p.2 ≤ 1000) : 0 ≤ lkB acc t ∧ lkB acc t ≤ 1000 := by
  have key : ∀ (acc : List (Bs × Int)) (r : Int), 0 ≤ r → r ≤ 1000 → (∀ p ∈ acc, 0 ≤ p.2 ∧ p.2 ≤ 1000) → 0 ≤ acc.foldl (fun r p => if p.1 == t then p.2 else r) r ∧ acc.foldl (fun r p => if p.1 == t then p.2 else r) r ≤ 1000 := by
    intro acc
    induction acc with
    | nil => intro r h1 h2 _; exact ⟨h1, h2⟩
    | cons p q ih =>
      intro r h1 h2 hp
      rw [List.foldl_cons]
      have := hp p (List.mem_cons_self ..)
      refine ih _ ?_ ?_ fun x hx => hp x (List.mem_cons_of_mem _ hx)
      · split <;> omega
      · split <;> omega
  exact key acc 0 (by omega) (by omega) h
/-- Blocks below the start but one stay as they were. -/
theorem gb_step {W wr w3 : World} {b0 : Nat} {row : Option Nat} (h : W.grownBy wr (some b0)) (h2 : wr.grownBy w3 row) (hr : ∀ g, row = some g → g = b0 ∨ W.heap.size ≤ g) : W.grownBy w3 (some b0) :=
  ⟨h2.os.trans h.os, h2.tape.trans h.tape, h2.output.trans h.output, Nat.le_trans h.size h2.size, fun k hk hne => by
    rw [h2.block k (Nat.lt_of_lt_of_le hk h.size) (fun e => by
      rcases hr k e.symm with rfl | hg
      · exact hne rfl
      · omega)]
    exact h.block k hk hne⟩
theorem ext_gb {w0 W wr : World} {b0 : Nat} (h : Ext w0 W) (h2 : W.grownBy wr (some b0)) (hb : w0.heap.size ≤ b0) : Ext w0 wr :=
  ext_appS (v := .slice (some ⟨b0, 0, none⟩) 0 0) h h2 (fun g hg => by cases hg; exact hb)
end Go.Proofs.Ytbdcomkbpapcaaa
