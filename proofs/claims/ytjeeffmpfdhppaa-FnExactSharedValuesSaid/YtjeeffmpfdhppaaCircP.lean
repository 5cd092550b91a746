/-
  Circuits: which are valid, their gates' values, and which gates are needed. Plain words. No condition.
-/
import Derived.Test.YtjeeffmpfdhppaaGate
import Derived.Test.YtjeeffmpfdhppaaC2
namespace Go.Proofs.Ytjeeffmpfdhppaa
open Go.RowKit
def gateB (n i : Int) (g : Gat) : Bool :=
  if g.k = 1 then inB g.a 1 n && decide (g.b = 0)
  else if g.k = 2 ∨ g.k = 3 then decide (g.a = 0) && decide (g.b = 0)
  else if g.k = 4 then inB g.a 0 (i - 1) && decide (g.b = 0)
  else if g.k = 5 ∨ g.k = 6 then inB g.a 0 (i - 1) && inB g.b 0 (i - 1)
  else false
def gatesF (n : Int) : Int → List Gat → Bool
  | _, [] => true
  | i, g :: r => gateB n i g && gatesF n (i + 1) r
def circB (n : Int) (gs : List Gat) : Bool := inB n 0 12 && (inB gs.length 1 200 && gatesF n 0 gs)
theorem gatesF_at {n : Int} : ∀ {gs : List Gat} {i : Int}, gatesF n i gs = true → ∀ (k : Nat) (h : k < gs.length), gateB n (i + k) gs[k] = true
  | [], i, _, k, h => by simp at h
  | g :: r, i, hg, 0, _ => by
    unfold gatesF at hg
    rw [Bool.and_eq_true] at hg
    simpa using hg.1
  | g :: r, i, hg, k + 1, h => by
    unfold gatesF at hg
    rw [Bool.and_eq_true] at hg
    have := gatesF_at hg.2 k (by simpa using h)
    rw [show i + ((k + 1 : Nat) : Int) = i + 1 + k from by omega]
    simpa using this
theorem circ_inv {n : Int} {gs : List Gat} (h : circB n gs = true) : (0 ≤ n ∧ n ≤ 12) ∧ (1 ≤ gs.length ∧ gs.length ≤ 200) ∧ ∀ (k : Nat) (h : k < gs.length), gateB n k gs[k] = true := by
  unfold circB at h
  rw [Bool.and_eq_true, Bool.and_eq_true] at h
  have h1 := inB_iff.1 h.1
  have h2 := inB_iff.1 h.2.1
  refine ⟨h1, by omega, fun k hk => ?_⟩
  have := gatesF_at h.2.2 k hk
  rwa [Int.zero_add] at this
/-- What a valid gate is. -/
theorem gate_inv {n : Int} {k : Nat} {g : Gat} (h : gateB n k g = true) :
    (g.k = 1 ∧ 1 ≤ g.a ∧ g.a ≤ n) ∨ g.k = 2 ∨ g.k = 3 ∨ (g.k = 4 ∧ 0 ≤ g.a ∧ g.a < k) ∨ (g.k = 5 ∧ 0 ≤ g.a ∧ g.a < k ∧ 0 ≤ g.b ∧ g.b < k) ∨ (g.k = 6 ∧ 0 ≤ g.a ∧ g.a < k ∧ 0 ≤ g.b ∧ g.b < k) := by
  unfold gateB at h
  split at h
  · rename_i e
    rw [Bool.and_eq_true] at h
    have := inB_iff.1 h.1
    exact .inl ⟨e, this.1, this.2⟩
  · split at h
    · rename_i e
      rcases e with e | e
      · exact .inr (.inl e)
      · exact .inr (.inr (.inl e))
    · split at h
      · rename_i e
        rw [Bool.and_eq_true] at h
        have := inB_iff.1 h.1
        exact .inr (.inr (.inr (.inl ⟨e, by omega, by omega⟩)))
      · split at h
        · rename_i e
          rw [Bool.and_eq_true] at h
          have h1 := inB_iff.1 h.1
          have h2 := inB_iff.1 h.2
          rcases e with e | e
          · exact .inr (.inr (.inr (.inr (.inl ⟨e, by omega, by omega, by omega, by omega⟩))))
          · exact .inr (.inr (.inr (.inr (.inr ⟨e, by omega, by omega, by omega, by omega⟩))))
        · cases h
/-! ### values -/
def gval (b : Nat) (out : List Bool) (g : Gat) : Bool :=
  if g.k = 1 then bitN b (g.a - 1).toNat == 1
  else if g.k = 2 then true
  else if g.k = 4 then !(out.getD g.a.toNat false)
  else if g.k = 5 then out.getD g.a.toNat false && out.getD g.b.toNat false
  else if g.k = 6 then out.getD g.a.toNat false || out.getD g.b.toNat false
  else false
def gvals (b : Nat) (gs : List Gat) : Nat → List Bool
  | 0 => []
  | i + 1 => gvals b gs i ++ [gval b (gvals b gs i) (gs.getD i ⟨0, 0, 0⟩)]
@[simp] theorem gvals_len (b : Nat) (gs : List Gat) : ∀ i, (gvals b gs i).length = i
  | 0 => rfl
  | i + 1 => by simp [gvals, gvals_len b gs i]
def circV (b : Nat) (gs : List Gat) : Bool := (gvals b gs gs.length).getD (gs.length - 1) false
theorem gvals_at (b : Nat) (gs : List Gat) : ∀ (i j : Nat), j < i → (gvals b gs i).getD j false = gval b (gvals b gs j) (gs.getD j ⟨0, 0, 0⟩)
  | 0, j, h => by omega
  | i + 1, j, h => by
    rw [show gvals b gs (i + 1) = gvals b gs i ++ [gval b (gvals b gs i) (gs.getD i ⟨0, 0, 0⟩)] from rfl]
    by_cases e : j < i
    · have := gvals_at b gs i j e
      rw [← this]
      simp [List.getD, List.getElem?_append_left, e]
    · obtain rfl : j = i := by omega
      simp [List.getD]
/-! ### which gates are needed -/
def setB (l : List Bool) (x : Int) : List Bool := l.set x.toNat true
def mark1 (l : List Bool) (g : Gat) : List Bool :=
  if g.k = 4 then setB l g.a else if g.k = 5 ∨ g.k = 6 then setB (setB l g.a) g.b else l
/-- The state ahead of gate number i - 1; all gates from i on have been dealt with. -/
def needU (gs : List Gat) : Nat → List Bool
  | 0 => setB (List.replicate gs.length false) ((gs.length : Int) - 1)
  | m + 1 => let l := needU gs m; if l.getD (gs.length - (m + 1)) false then mark1 l (gs.getD (gs.length - (m + 1)) ⟨0, 0, 0⟩) else l
theorem needU_succ (gs : List Gat) (m : Nat) : needU gs (m + 1) = if (needU gs m).getD (gs.length - (m + 1)) false then mark1 (needU gs m) (gs.getD (gs.length - (m + 1)) ⟨0, 0, 0⟩) else needU gs m := rfl
@[simp] theorem setB_len (l : List Bool) (x : Int) : (setB l x).length = l.length := by simp [setB]
@[simp] theorem mark1_len (l : List Bool) (g : Gat) : (mark1 l g).length = l.length := by
  unfold mark1
  split
  · simp
  · split <;> simp
@[simp] theorem needU_len (gs : List Gat) : ∀ m, (needU gs m).length = gs.length
  | 0 => by simp [needU]
  | m + 1 => by
    unfold needU
    dsimp only
    split
    · rw [mark1_len, needU_len gs m]
    · exact needU_len gs m
def need (gs : List Gat) : List Bool := needU gs gs.length
theorem setB_mono {l : List Bool} {x : Int} {j : Nat} (h : l.getD j false = true) : (setB l x).getD j false = true := by
  have hj : j < l.length := by
    rcases Nat.lt_or_ge j l.length with h1 | h1
    · exact h1
    · rw [List.getD_eq_getElem?_getD, List.getElem?_eq_none h1] at h; cases h
  unfold setB
  rw [List.getD_eq_getElem?_getD, List.getElem?_set]
  split
  · rw [if_pos (by omega)]; rfl
  · rw [← List.getD_eq_getElem?_getD]; exact h
theorem setB_self {l : List Bool} {x : Int} (h : x.toNat < l.length) : (setB l x).getD x.toNat false = true := by
  unfold setB
  rw [List.getD_eq_getElem?_getD, List.getElem?_set_self h]; rfl
theorem setB_ne {l : List Bool} {x : Int} {j : Nat} (h : x.toNat ≠ j) : (setB l x).getD j false = l.getD j false := by
  unfold setB
  rw [List.getD_eq_getElem?_getD, List.getElem?_set_ne h, ← List.getD_eq_getElem?_getD]
theorem mark1_mono {l : List Bool} {g : Gat} {j : Nat} (h : l.getD j false = true) : (mark1 l g).getD j false = true := by
  unfold mark1
  split
  · exact setB_mono h
  · split
    · exact setB_mono (setB_mono h)
    · exact h
theorem needU_mono {gs : List Gat} {j m : Nat} : ∀ d, (needU gs m).getD j false = true → (needU gs (m + d)).getD j false = true
  | 0, h => h
  | d + 1, h => by
    have ih := needU_mono d h
    rw [← Nat.add_assoc, needU_succ]
    split
    · exact mark1_mono ih
    · exact ih
/-- Marks of a valid gate lie below it. -/
theorem mark1_above {n : Int} {i : Nat} {g : Gat} (hg : gateB n i g = true) {l : List Bool} {j : Nat} (hj : i ≤ j) : (mark1 l g).getD j false = l.getD j false := by
  have h := gate_inv hg
  unfold mark1
  split
  · rw [setB_ne (by omega)]
  · split
    · rw [setB_ne (by omega), setB_ne (by omega)]
    · rfl
/-- What is known of gates from i on does not change. -/
theorem needU_above {n : Int} {gs : List Gat} (hg : circB n gs = true) {m j : Nat} : ∀ d, m + d ≤ gs.length → gs.length - (m + 1) ≤ j → (needU gs (m + d)).getD j false = (needU gs m).getD j false
  | 0, _, _ => rfl
  | d + 1, h1, h2 => by
    have ih := needU_above hg d (by omega) h2
    rw [← Nat.add_assoc, needU_succ]
    split
    · have hlt : gs.length - (m + d + 1) < gs.length := by omega
      have hh := (circ_inv hg).2.2 _ hlt
      have e : gs.getD (gs.length - (m + d + 1)) ⟨0, 0, 0⟩ = gs[gs.length - (m + d + 1)] := by simp [List.getD, hlt]
      rw [e, mark1_above hh (by omega)]
      exact ih
    · exact ih
theorem need_last {gs : List Gat} (h : 1 ≤ gs.length) : (need gs).getD (gs.length - 1) false = true := by
  have h0 : (needU gs 0).getD (gs.length - 1) false = true := by
    unfold needU
    have := setB_self (l := List.replicate gs.length false) (x := (gs.length : Int) - 1) (by simp; omega)
    rwa [show ((gs.length : Int) - 1).toNat = gs.length - 1 from by omega] at this
  have := needU_mono (m := 0) gs.length h0
  rwa [Nat.zero_add] at this
/-- What a needed gate needs is needed. -/
theorem need_in {n : Int} {gs : List Gat} (hg : circB n gs = true) {i : Nat} (hi : i < gs.length) (h : (need gs).getD i false = true) :
    (gs[i].k = 4 → (need gs).getD gs[i].a.toNat false = true) ∧ (gs[i].k = 5 ∨ gs[i].k = 6 → (need gs).getD gs[i].a.toNat false = true ∧ (need gs).getD gs[i].b.toNat false = true) := by
  have hh := gate_inv ((circ_inv hg).2.2 i hi)
  obtain ⟨m, hm, hm2⟩ : ∃ m, gs.length = m + 1 + i ∧ m < gs.length := ⟨gs.length - 1 - i, by omega, by omega⟩
  have e1 : gs.length - (m + 1) = i := by omega
  have hneed : need gs = needU gs (m + (gs.length - m)) := by unfold need; congr 1; omega
  have h1 : (needU gs m).getD i false = true := by
    rw [← needU_above hg (m := m) (j := i) (gs.length - m) (by omega) (by omega), ← hneed]; exact h
  have hstep : needU gs (m + 1) = mark1 (needU gs m) gs[i] := by
    rw [needU_succ, e1, if_pos h1]
    congr 1
    simp [List.getD, hi]
  have hup : ∀ j, (needU gs (m + 1)).getD j false = true → (need gs).getD j false = true := fun j hj => by
    have := needU_mono (gs.length - (m + 1)) hj
    rwa [show m + 1 + (gs.length - (m + 1)) = gs.length from by omega] at this
  have hln : (needU gs m).length = gs.length := needU_len gs m
  refine ⟨fun h4 => hup _ ?_, fun h56 => ⟨hup _ ?_, hup _ ?_⟩⟩
  · rw [hstep]
    unfold mark1
    rw [if_pos h4]
    exact setB_self (by omega)
  · rw [hstep]
    unfold mark1
    rw [if_neg (by omega), if_pos h56]
    exact setB_mono (setB_self (by omega))
  · rw [hstep]
    unfold mark1
    rw [if_neg (by omega), if_pos h56]
    exact setB_self (by rw [setB_len]; omega)
/-- A circuit's value turns only on the variables of its needed gates. -/
theorem gvals_congr {n : Int} {gs : List Gat} (hg : circB n gs = true) {b b' : Nat} (hv : ∀ (i : Nat) (h : i < gs.length), (need gs).getD i false = true → gs[i].k = 1 → bitN b (gs[i].a - 1).toNat = bitN b' (gs[i].a - 1).toNat) :
    ∀ m, m ≤ gs.length → ∀ j, j < m → (need gs).getD j false = true → (gvals b gs m).getD j false = (gvals b' gs m).getD j false
  | 0, _, j, h, _ => by omega
  | m + 1, hm, j, hj, hn => by
    by_cases e : j < m
    · have := gvals_congr hg hv m (by omega) j e hn
      rw [gvals_at _ _ _ _ hj, gvals_at _ _ _ _ hj, ← gvals_at b gs m j e, ← gvals_at b' gs m j e]
      exact this
    · obtain rfl : j = m := by omega
      have hlt : j < gs.length := by omega
      rw [gvals_at _ _ _ _ hj, gvals_at _ _ _ _ hj]
      have hget : gs.getD j ⟨0, 0, 0⟩ = gs[j] := by simp [List.getD, hlt]
      rw [hget]
      have hh := gate_inv ((circ_inv hg).2.2 j hlt)
      have hin := need_in hg hlt hn
      have hvj := hv j hlt hn
      have ih := gvals_congr hg hv j (by omega)
      generalize gs[j] = g at *
      unfold gval
      by_cases k1 : g.k = 1
      · rw [if_pos k1, if_pos k1, hvj k1]
      · rw [if_neg k1, if_neg k1]
        by_cases k2 : g.k = 2
        · rw [if_pos k2, if_pos k2]
        · rw [if_neg k2, if_neg k2]
          by_cases k4 : g.k = 4
          · rw [if_pos k4, if_pos k4, ih _ (by omega) (hin.1 k4)]
          · rw [if_neg k4, if_neg k4]
            by_cases k5 : g.k = 5
            · rw [if_pos k5, if_pos k5, ih _ (by omega) (hin.2 (.inl k5)).1, ih _ (by omega) (hin.2 (.inl k5)).2]
            · rw [if_neg k5, if_neg k5]
              by_cases k6 : g.k = 6
              · rw [if_pos k6, if_pos k6, ih _ (by omega) (hin.2 (.inr k6)).1, ih _ (by omega) (hin.2 (.inr k6)).2]
              · rw [if_neg k6, if_neg k6]
theorem circV_congr {n : Int} {gs : List Gat} (hg : circB n gs = true) {b b' : Nat} (hv : ∀ (i : Nat) (h : i < gs.length), (need gs).getD i false = true → gs[i].k = 1 → bitN b (gs[i].a - 1).toNat = bitN b' (gs[i].a - 1).toNat) : circV b gs = circV b' gs := by
  have h1 := (circ_inv hg).2.1
  exact gvals_congr hg hv gs.length (Nat.le_refl _) _ (by omega) (need_last h1.1)
/-- All variables of needed gates lie among some variables. -/
def plainB (vs : List Int) (gs : List Gat) : Bool := (List.range gs.length).all fun i => !((need gs).getD i false && (decide ((gs.getD i ⟨0, 0, 0⟩).k = 1) && !hasI vs (gs.getD i ⟨0, 0, 0⟩).a))
theorem plain_inv {vs : List Int} {gs : List Gat} (h : plainB vs gs = true) {i : Nat} (hi : i < gs.length) (h1 : (need gs).getD i false = true) (h2 : gs[i].k = 1) : gs[i].a ∈ vs := by
  unfold plainB at h
  have := List.all_eq_true.1 h i (List.mem_range.2 hi)
  rw [show gs.getD i ⟨0, 0, 0⟩ = gs[i] by simp [List.getD, hi], h1, decide_eq_true h2] at this
  exact (hasI_iff _ _).1 (by simpa using this)
end Go.Proofs.Ytjeeffmpfdhppaa
