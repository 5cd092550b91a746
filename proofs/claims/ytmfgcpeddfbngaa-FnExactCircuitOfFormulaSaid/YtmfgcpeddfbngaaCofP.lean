/-
  The circuit of a formula: plain words. No condition.
-/
import Derived.Test.YtmfgcpeddfbngaaFpP
import Derived.Test.YtmfgcpeddfbngaaAppG
namespace Go.Proofs.Ytmfgcpeddfbngaa
open Go.RowKit Go.Sort
/-- A text's tree. -/
def treeB (x : Bs) : Fm := match pL x with
  | some (f, _) => f
  | none => .leaf 48
theorem treeB_txt {f : Fm} (hw : WfF f = true) : treeB (txt f) = f := by
  unfold treeB
  rw [pL_iff.2 ⟨(List.append_nil _).symm, hw⟩]
theorem subs_wf : ∀ (f : Fm), WfF f = true → ∀ g ∈ subs f, WfF g = true
  | .leaf c, h, g, hg => by rw [List.mem_singleton.1 hg]; exact h
  | .neg a, h, g, hg => by
    rcases List.mem_cons.1 hg with rfl | hg
    · exact h
    · exact subs_wf a h g hg
  | .bin o a b, h, g, hg => by
    obtain ⟨_, h1, h2⟩ := wf_bin h
    rcases List.mem_cons.1 hg with rfl | hg
    · exact h
    · rcases List.mem_append.1 hg with hg | hg
      · exact subs_wf a h1 g hg
      · exact subs_wf b h2 g hg
theorem subs_txt : ∀ (f g : Fm), g ∈ subs f → (txt g).length ≤ (txt f).length
  | .leaf c, g, hg => by rw [List.mem_singleton.1 hg]; exact Nat.le_refl _
  | .neg a, g, hg => by
    rcases List.mem_cons.1 hg with rfl | hg
    · exact Nat.le_refl _
    · have := subs_txt a g hg; simp [txt]; omega
  | .bin o a b, g, hg => by
    rcases List.mem_cons.1 hg with rfl | hg
    · exact Nat.le_refl _
    · rcases List.mem_append.1 hg with hg | hg
      · have := subs_txt a g hg; simp [txt]; omega
      · have := subs_txt b g hg; simp [txt]; omega
/-- The trees of all different parts, in order. -/
def partsT (f : Fm) : List Fm := (partsB f).map treeB
theorem partsT_mem {f : Fm} (hw : WfF f = true) {x : Bs} (hx : x ∈ partsB f) : txt (treeB x) = x ∧ WfF (treeB x) = true ∧ (txt (treeB x)).length ≤ (txt f).length := by
  obtain ⟨g, hg, rfl⟩ := List.mem_map.1 (((sortB_spec _).2 x).1 hx)
  have h1 := subs_wf f hw g hg
  rw [treeB_txt h1]
  exact ⟨rfl, h1, subs_txt f g hg⟩
@[simp] theorem partsT_len (f : Fm) : (partsT f).length = (partsB f).length := by simp [partsT]
def kA : Fm → Bs
  | .leaf _ => []
  | .neg a => txt a
  | .bin _ a _ => txt a
def kB : Fm → Bs
  | .leaf _ => []
  | .neg _ => []
  | .bin _ _ b => txt b
theorem kidA_eq (y : Fm) : kidA y = ⟨(kA y).toArray⟩ := by cases y <;> rfl
theorem kidB_eq (y : Fm) : kidB y = ⟨(kB y).toArray⟩ := by cases y <;> rfl
/-- The gates of a part behind n gates, where x and z are the places of its parts. -/
def gatesOf (n : Int) (y : Fm) (x z : Int) : List Gat := match y with
  | .leaf c => if c = 48 then [⟨3, 0, 0⟩] else if c = 49 then [⟨2, 0, 0⟩] else [⟨1, (c.toNat : Int) - 97 + 1, 0⟩]
  | .neg _ => [⟨4, x, 0⟩]
  | .bin o _ _ => if o = 38 then [⟨5, x, z⟩] else if o = 124 then [⟨6, x, z⟩] else [⟨4, x, 0⟩, ⟨6, n, z⟩]
theorem gatesOf_len (n : Int) (y : Fm) (x z : Int) : 1 ≤ (gatesOf n y x z).length ∧ (gatesOf n y x z).length ≤ 2 := by
  cases y with
  | leaf c =>
    by_cases h1 : c = 48
    · simp [gatesOf, h1]
    · by_cases h2 : c = 49 <;> simp [gatesOf, h1, h2]
  | neg a => simp [gatesOf]
  | bin o a b =>
    by_cases h1 : o = 38
    · simp [gatesOf, h1]
    · by_cases h2 : o = 124 <;> simp [gatesOf, h1, h2]
/-- The last place that was given to a text, or 0. -/
def lkB (acc : List (Bs × Int)) (t : Bs) : Int := acc.foldl (fun r p => if p.1 == t then p.2 else r) 0
theorem lkB_snoc (acc : List (Bs × Int)) (p : Bs × Int) (t : Bs) : lkB (acc ++ [p]) t = if p.1 == t then p.2 else lkB acc t := by simp [lkB, List.foldl_append]
abbrev SC := List Gat × List (Bs × Int)
def stepC (s : SC) (y : Fm) : SC := (s.1 ++ gatesOf s.1.length y (lkB s.2 (kA y)) (lkB s.2 (kB y)), s.2 ++ [(txt y, (s.1.length : Int) + (gatesOf s.1.length y (lkB s.2 (kA y)) (lkB s.2 (kB y))).length - 1)])
def runC (ys : List Fm) (k : Nat) : SC := (ys.take k).foldl stepC ([], [])
theorem runC_succ (ys : List Fm) {k : Nat} (h : k < ys.length) : runC ys (k + 1) = stepC (runC ys k) ys[k] := by
  unfold runC
  rw [List.take_succ_eq_append_getElem h, List.foldl_append]; rfl
theorem runC_len (ys : List Fm) : ∀ k, k ≤ ys.length → (runC ys k).1.length ≤ 2 * k ∧ (runC ys k).2.length = k
  | 0, _ => by simp [runC]
  | k + 1, h => by
    have ih := runC_len ys k (by omega)
    have hg := gatesOf_len ((runC ys k).1.length : Int) ys[k] (lkB (runC ys k).2 (kA ys[k])) (lkB (runC ys k).2 (kB ys[k]))
    rw [runC_succ ys (by omega), stepC]
    simp only [List.length_append, List.length_singleton]
    omega
theorem runC_take (ys : List Fm) (k : Nat) (hk : k ≤ ys.length) : ∀ n, k ≤ n → n ≤ ys.length → (runC ys n).2.take k = (runC ys k).2 := by
  intro n
  induction n with
  | zero =>
    intro h1 _
    obtain rfl : k = 0 := by omega
    rfl
  | succ n ih =>
    intro h1 h2
    rcases Nat.lt_or_ge n k with h | h
    · obtain rfl : k = n + 1 := by omega
      exact List.take_of_length_le (by rw [(runC_len ys _ hk).2]; exact Nat.le_refl _)
    · rw [runC_succ ys (by omega), stepC]
      dsimp only
      rw [List.take_append_of_le_length (by rw [(runC_len ys n (by omega)).2]; exact h)]
      exact ih h (by omega)
theorem runC_texts (ys : List Fm) : ∀ k, k ≤ ys.length → (runC ys k).2.map (·.1) = (ys.take k).map txt
  | 0, _ => by simp [runC]
  | k + 1, h => by
    rw [runC_succ ys (by omega), stepC, List.take_succ_eq_append_getElem (by omega), List.map_append, List.map_append, runC_texts ys k (by omega)]
    rfl
theorem lkB_bd (acc : List (Bs × Int)) (t : Bs) (h : ∀ p ∈ acc, 0 ≤ p.2 ∧ p.2 ≤ 1000) : 0 ≤ lkB acc t ∧ lkB acc t ≤ 1000 := by
  have key : ∀ (acc : List (Bs × Int)) (r : Int), 0 ≤ r → r ≤ 1000 → (∀ p ∈ acc, 0 ≤ p.2 ∧ p.2 ≤ 1000) → 0 ≤ acc.foldl (fun r p => if p.1 == t then p.2 else r) r ∧ acc.foldl (fun r p => if p.1 == t then p.2 else r) r ≤ 1000 := by
    intro acc
    induction acc with
    | nil => intro r h1 h2 _; exact ⟨h1, h2⟩
    | cons p q ih =>
      intro r h1 h2 hp
      rw [List.foldl_cons]
      have := hp p (List.mem_cons_self ..)
      refine ih _ ?_ ?_ fun x hx => hp x (List.mem_cons_of_mem _ hx)
      · split <;> omega
      · split <;> omega
  exact key acc 0 (by omega) (by omega) h
theorem runC_bd (ys : List Fm) (hn : ys.length ≤ 100) : ∀ k, k ≤ ys.length → ∀ p ∈ (runC ys k).2, 0 ≤ p.2 ∧ p.2 ≤ 1000
  | 0, _, p, h => by simp [runC] at h
  | k + 1, h, p, hp => by
    rw [runC_succ ys (by omega), stepC] at hp
    have hg := gatesOf_len ((runC ys k).1.length : Int) ys[k] (lkB (runC ys k).2 (kA ys[k])) (lkB (runC ys k).2 (kB ys[k]))
    have hl := (runC_len ys k (by omega)).1
    rcases List.mem_append.1 hp with hp | hp
    · exact runC_bd ys hn k (by omega) p hp
    · rw [List.mem_singleton.1 hp]
      dsimp only
      omega
/-- The circuit. -/
def circF (f : Fm) : List Gat := (runC (partsT f) (partsT f).length).1
def circV (s : ByteArray) : List Gat := match goodF s with
  | some f => circF f
  | none => []
theorem circF_len {f : Fm} (h : (txt f).length ≤ 80) : (circF f).length ≤ 160 := by
  have h1 := (runC_len (partsT f) _ (Nat.le_refl _)).1
  have h2 := partsB_len f
  unfold circF
  rw [partsT_len] at *
  omega
theorem circV_bd (s : ByteArray) : Bd_GateS (circV s) := by
  unfold circV Bd_GateS
  cases h : goodF s with
  | none => simp
  | some f =>
    obtain ⟨h1, h2, _⟩ := goodF_iff.1 h
    have : (txt f).length ≤ 80 := by rw [← h2]; simpa using h1
    have := circF_len this
    dsimp only
    omega
/-- Blocks below the start but one stay as they were. -/
theorem gb_step {W wr w3 : World} {b0 : Nat} {row : Option Nat} (h : W.grownBy wr (some b0)) (h2 : wr.grownBy w3 row) (hr : ∀ g, row = some g → g = b0 ∨ W.heap.size ≤ g) : W.grownBy w3 (some b0) :=
  ⟨h2.os.trans h.os, h2.tape.trans h.tape, h2.output.trans h.output, Nat.le_trans h.size h2.size, fun k hk hne => by
    rw [h2.block k (Nat.lt_of_lt_of_le hk h.size) (fun e => by
      rcases hr k e.symm with rfl | hg
      · exact hne rfl
      · omega)]
    exact h.block k hk hne⟩
theorem ext_gb {w0 W wr : World} {b0 : Nat} (h : Ext w0 W) (h2 : W.grownBy wr (some b0)) (hb : w0.heap.size ≤ b0) : Ext w0 wr :=
  ext_appS (v := .slice (some ⟨b0, 0, none⟩) 0 0) h h2 (fun g hg => by cases hg; exact hb)
end Go.Proofs.Ytmfgcpeddfbngaa
