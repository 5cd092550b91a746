/-
  Discharge, in plain words: cases of schemes by matching, correct steps, and the steps without a given formula. No condition.
-/
import Derived.Test.YtapgpjhogdmjbaaDoorIdn
import Derived.Test.YtapgpjhogdmjbaaDoorFmI
import Derived.Test.YtapgpjhogdmjbaaDoorStrS
namespace Go.Proofs.YtapgpjhogdmjbaaDoor
open Go.RowKit
def letF : Fm → Bool
  | .leaf c => letB c
  | _ => false
/-- A tree against a scheme's tree; st has the texts that were put for the letters, empty for none. -/
def matF : Fm → Fm → List (List UInt8) → List (List UInt8) × Bool
  | .leaf c, y, st =>
    if letB c then (if st.getD (c.toNat - 97) [] = [] then (st.set (c.toNat - 97) (txt y), true) else (st, decide (st.getD (c.toNat - 97) [] = txt y)))
    else (match y with
      | .leaf d => (st, c == d)
      | _ => (st, false))
  | .neg a, .neg b, st => matF a b st
  | .neg _, .leaf _, st => (st, false)
  | .neg _, .bin _ _ _, st => (st, false)
  | .bin o a b, .bin o' p q, st => if o = o' then (if (matF a p st).2 then matF b q (matF a p st).1 else (st, false)) else (st, false)
  | .bin _ _ _, .leaf _, st => (st, false)
  | .bin _ _ _, .neg _, st => (st, false)
theorem matF_len : ∀ (f y : Fm) (st : List (List UInt8)), (matF f y st).1.length = st.length
  | .leaf c, y, st => by
    unfold matF
    split
    · split
      · exact List.length_set
      · rfl
    · split <;> rfl
  | .neg a, .neg b, st => by unfold matF; exact matF_len a b st
  | .neg _, .leaf _, st => rfl
  | .neg _, .bin _ _ _, st => rfl
  | .bin o a b, .bin o' p q, st => by
    unfold matF
    split
    · split
      · rw [matF_len b q, matF_len a p]
      · rfl
    · rfl
  | .bin _ _ _, .leaf _, st => rfl
  | .bin _ _ _, .neg _, st => rfl
/-- Is a tree a case of a scheme? -/
def isC (k : Nat) (y : Fm) : Bool := (matF (schT k) y [[], [], []]).2
def impB (a b : ByteArray) : ByteArray := ⟨#[40]⟩ ++ a ++ ⟨#[62]⟩ ++ b ++ ⟨#[41]⟩
def recAt (rs : List Rec) (k : Int) : ByteArray := match rs[k.toNat]? with
  | some r => r.name
  | none => .empty
def caseB (r : Rec) : Bool := r.size == 0 && (r.extra == 0 && (match goodF r.name with
  | some y => isC r.sys.toNat y
  | none => false))
def givB (gs : List (List UInt8)) (r : Rec) : Bool := r.extra == 0 && (inB r.size 0 (gs.length - 1) && decide (gs.getD r.size.toNat [] = r.name.data.toList))
def modS (rs : List Rec) (k : Nat) (r : Rec) : Bool := inB r.size 0 (k - 1) && (inB r.extra 0 (k - 1) && decide ((recAt rs r.extra).data.toList = (impB (recAt rs r.size) r.name).data.toList))
def modI (rs : List Rec) (k : Nat) (r : Rec) : Bool := inB r.size 0 (k - 1) && (inB r.extra 0 (k - 1) && (isF (recAt rs r.size) && (isF (recAt rs r.extra) && decide ((recAt rs r.extra).data.toList = (impB (recAt rs r.size) r.name).data.toList))))
/-- A step is correct: as the reference's text says, and as the program's says. -/
def corS (gs : List (List UInt8)) (rs : List Rec) (k : Nat) (r : Rec) : Bool :=
  isF r.name && (if inB r.sys 1 10 then caseB r else if r.sys = 0 then givB gs r else if r.sys = -1 then modS rs k r else false)
def corI (gs : List (List UInt8)) (rs : List Rec) (k : Nat) (r : Rec) : Bool :=
  isF r.name && (if inB r.sys 1 10 then caseB r else if r.sys = 0 then givB gs r else if r.sys = -1 then modI rs k r else false)
def AllC (c : Nat → Rec → Bool) (rs : List Rec) : Prop := ∀ k (h : k < rs.length), c k rs[k] = true
theorem cor_name {gs : List (List UInt8)} {rs : List Rec} {k : Nat} {r : Rec} (h : corS gs rs k r = true) : isF r.name = true := by
  unfold corS at h
  rw [Bool.and_eq_true] at h
  exact h.1
theorem recAt_get {rs : List Rec} {i : Int} {k : Nat} (h : inB i 0 ((k : Int) - 1) = true) (hk : k ≤ rs.length) : ∃ j, ∃ h : j < rs.length, j < k ∧ i = (j : Int) ∧ recAt rs i = rs[j].name := by
  rw [inB_iff] at h
  have hj : i.toNat < rs.length := by omega
  refine ⟨i.toNat, hj, by omega, by omega, ?_⟩
  unfold recAt
  rw [List.getElem?_eq_getElem hj]
theorem corS_of {gs : List (List UInt8)} {rs : List Rec} {k : Nat} {r : Rec} (h : corI gs rs k r = true) : corS gs rs k r = true := by
  unfold corI at h
  unfold corS
  rw [Bool.and_eq_true] at h ⊢
  refine ⟨h.1, ?_⟩
  have h2 := h.2
  by_cases h3 : inB r.sys 1 10 = true
  · rw [if_pos h3] at h2 ⊢; exact h2
  · rw [if_neg h3] at h2 ⊢
    by_cases h4 : r.sys = 0
    · rw [if_pos h4] at h2 ⊢; exact h2
    · rw [if_neg h4] at h2 ⊢
      by_cases h5 : r.sys = -1
      · rw [if_pos h5] at h2 ⊢
        unfold modI at h2
        unfold modS
        simp only [Bool.and_eq_true] at h2 ⊢
        exact ⟨h2.1, h2.2.1, h2.2.2.2.2⟩
      · rw [if_neg h5] at h2; cases h2
theorem corI_of {gs : List (List UInt8)} {rs : List Rec} {k : Nat} {r : Rec} (hk : k ≤ rs.length) (hp : ∀ j (h : j < rs.length), j < k → isF rs[j].name = true) (h : corS gs rs k r = true) : corI gs rs k r = true := by
  unfold corS at h
  unfold corI
  rw [Bool.and_eq_true] at h ⊢
  refine ⟨h.1, ?_⟩
  have h2 := h.2
  by_cases h3 : inB r.sys 1 10 = true
  · rw [if_pos h3] at h2 ⊢; exact h2
  · rw [if_neg h3] at h2 ⊢
    by_cases h4 : r.sys = 0
    · rw [if_pos h4] at h2 ⊢; exact h2
    · rw [if_neg h4] at h2 ⊢
      by_cases h5 : r.sys = -1
      · rw [if_pos h5] at h2 ⊢
        unfold modS at h2
        unfold modI
        simp only [Bool.and_eq_true] at h2 ⊢
        obtain ⟨j1, a1, b1, _, c1⟩ := recAt_get h2.1 hk
        obtain ⟨j2, a2, b2, _, c2⟩ := recAt_get h2.2.1 hk
        exact ⟨h2.1, h2.2.1, by rw [c1]; exact hp j1 a1 b1, by rw [c2]; exact hp j2 a2 b2, h2.2.2⟩
      · rw [if_neg h5] at h2; cases h2
theorem all_same {gs : List (List UInt8)} {rs : List Rec} : AllC (corS gs rs) rs ↔ AllC (corI gs rs) rs :=
  ⟨fun h k hk => corI_of (by omega) (fun j hj _ => cor_name (h j hj)) (h k hk), fun h k hk => corS_of (h k hk)⟩
/-- The least number of a step that is not correct, or -1. -/
def wrgG (c : Nat → Rec → Bool) (rs : List Rec) : Nat → Nat → Int
  | 0, _ => -1
  | f + 1, k => match rs[k]? with
    | none => -1
    | some r => if c k r then wrgG c rs f (k + 1) else k
def wrg (c : Nat → Rec → Bool) (rs : List Rec) : Int := wrgG c rs (rs.length + 1) 0
theorem wrgG_end (c : Nat → Rec → Bool) (rs : List Rec) (f k : Nat) (h : rs.length ≤ k) : wrgG c rs f k = -1 := by
  cases f with
  | zero => rfl
  | succ f => rw [wrgG, List.getElem?_eq_none h]
theorem wrgG_more (c : Nat → Rec → Bool) (rs : List Rec) : ∀ (f k : Nat), rs.length < f + k → wrgG c rs f k = wrgG c rs (f + 1) k
  | 0, k, h => by rw [wrgG_end c rs _ k (by omega), wrgG_end c rs _ k (by omega)]
  | f + 1, k, h => by
    rw [wrgG, wrgG.eq_def c rs (f + 1 + 1)]
    dsimp only
    rw [wrgG_more c rs f (k + 1) (by omega)]
def wrgK (c : Nat → Rec → Bool) (rs : List Rec) (k : Nat) : Int := wrgG c rs (rs.length + 1) k
theorem wrgK_stop {c : Nat → Rec → Bool} {rs : List Rec} {k : Nat} (h : rs.length ≤ k) : wrgK c rs k = -1 := wrgG_end _ _ _ _ h
theorem wrgK_no {c : Nat → Rec → Bool} {rs : List Rec} {k : Nat} (h : k < rs.length) (hc : c k rs[k] = false) : wrgK c rs k = k := by
  unfold wrgK
  rw [wrgG, List.getElem?_eq_getElem h]
  dsimp only
  rw [hc, if_neg (by decide)]
theorem wrgK_yes {c : Nat → Rec → Bool} {rs : List Rec} {k : Nat} (h : k < rs.length) (hc : c k rs[k] = true) : wrgK c rs k = wrgK c rs (k + 1) := by
  unfold wrgK
  rw [wrgG, List.getElem?_eq_getElem h]
  dsimp only
  rw [hc, if_pos rfl, wrgG_more c rs _ _ (by omega)]
theorem wrgK_iff {c : Nat → Rec → Bool} {rs : List Rec} : ∀ (n k : Nat), rs.length = n + k → (wrgK c rs k < 0 ↔ ∀ j (h : j < rs.length), k ≤ j → c j rs[j] = true)
  | 0, k, h => by
    rw [wrgK_stop (by omega)]
    exact ⟨fun _ j hj hk => by omega, fun _ => by decide⟩
  | n + 1, k, h => by
    cases hc : c k (rs[k]'(by omega)) with
    | false =>
      rw [wrgK_no (by omega) hc]
      refine ⟨fun h => by omega, fun h2 => ?_⟩
      rw [h2 k (by omega) (Nat.le_refl _)] at hc; cases hc
    | true =>
      rw [wrgK_yes (by omega) hc, wrgK_iff n (k + 1) (by omega)]
      constructor
      · intro h2 j hj hk
        rcases Nat.eq_or_lt_of_le hk with rfl | hl
        · exact hc
        · exact h2 j hj hl
      · exact fun h2 j hj hk => h2 j hj (by omega)
theorem wrg_iff {c : Nat → Rec → Bool} {rs : List Rec} : wrg c rs < 0 ↔ AllC c rs := by
  have := wrgK_iff (c := c) (rs := rs) rs.length 0 (by omega)
  exact this.trans ⟨fun h k hk => h k hk (Nat.zero_le _), fun h k hk _ => h k hk⟩
def askFr (gs : List (List UInt8)) (rs : List Rec) : Bool := decide (gs.length ≤ 6) && (decide (rs.length ≤ 80) && gs.all fun s => isF ⟨s.toArray⟩)
/-- The steps are a proof. -/
def prfS (gs : List (List UInt8)) (rs : List Rec) : Bool := askFr gs rs && (decide (0 < rs.length) && decide (wrg (corS gs rs) rs < 0))
def prfI (gs : List (List UInt8)) (rs : List Rec) : Bool := askFr gs rs && (decide (0 < rs.length) && decide (wrg (corI gs rs) rs < 0))
theorem prf_same (gs : List (List UInt8)) (rs : List Rec) : prfI gs rs = prfS gs rs := by
  unfold prfI prfS
  congr 2
  have h : wrg (corI gs rs) rs < 0 ↔ wrg (corS gs rs) rs < 0 := by rw [wrg_iff, wrg_iff, all_same]
  by_cases h2 : wrg (corS gs rs) rs < 0
  · rw [decide_eq_true h2, decide_eq_true (h.2 h2)]
  · rw [decide_eq_false h2, decide_eq_false (fun h3 => h2 (h.1 h3))]
/-! ### Without a given formula -/
def treeOf (s : ByteArray) : Fm := (goodF s).getD (.leaf 48)
def disA (A : Fm) (i : Int) (rs : List Rec) (ats : List Int) (n : Nat) (r : Rec) : List Rec :=
  if r.sys = 0 ∧ r.size = i then idR n A
  else if r.sys = -1 then
    [⟨strF (putF A (treeOf (recAt rs r.size)) (treeOf r.name) (schT 2)), 2, 0, 0⟩,
     ⟨strF (impF (impF A (treeOf (recAt rs r.size))) (impF A (treeOf r.name))), -1, ats.getD r.extra.toNat 0, n⟩,
     ⟨strF (impF A (treeOf r.name)), -1, ats.getD r.size.toNat 0, (n : Int) + 1⟩]
  else [r, ⟨strF (putF (treeOf r.name) A A (schT 1)), 1, 0, 0⟩, ⟨strF (impF A (treeOf r.name)), -1, n, (n : Int) + 1⟩]
/-- What stands behind k steps: the new steps, and where each old one's stands. -/
def disK (A : Fm) (i : Int) (rs : List Rec) : Nat → List Rec × List Int
  | 0 => ([], [])
  | k + 1 => match rs[k]? with
    | none => disK A i rs k
    | some r =>
      ((disK A i rs k).1 ++ disA A i rs (disK A i rs k).2 (disK A i rs k).1.length r,
       (disK A i rs k).2 ++ [(((disK A i rs k).1 ++ disA A i rs (disK A i rs k).2 (disK A i rs k).1.length r).length : Int) - 1])
theorem disK_step {A : Fm} {i : Int} {rs : List Rec} {k : Nat} (h : k < rs.length) : disK A i rs (k + 1) = ((disK A i rs k).1 ++ disA A i rs (disK A i rs k).2 (disK A i rs k).1.length rs[k],
       (disK A i rs k).2 ++ [(((disK A i rs k).1 ++ disA A i rs (disK A i rs k).2 (disK A i rs k).1.length rs[k]).length : Int) - 1]) := by
  rw [disK, List.getElem?_eq_getElem h]
theorem disA_len (A : Fm) (i : Int) (rs : List Rec) (ats : List Int) (n : Nat) (r : Rec) : 1 ≤ (disA A i rs ats n r).length ∧ (disA A i rs ats n r).length ≤ 5 := by
  unfold disA
  split
  · unfold idR; simp
  · split <;> simp
theorem disK_len {A : Fm} {i : Int} {rs : List Rec} : ∀ k, k ≤ rs.length → (disK A i rs k).2.length = k ∧ (disK A i rs k).1.length ≤ 5 * k
  | 0, _ => ⟨rfl, Nat.le_refl _⟩
  | k + 1, h => by
    have ih := disK_len (A := A) (i := i) (rs := rs) k (by omega)
    rw [disK_step (by omega)]
    have := disA_len A i rs (disK A i rs k).2 (disK A i rs k).1.length (rs[k]'(by omega))
    simp only [List.length_append, List.length_singleton]
    omega
def disR (gs : List (List UInt8)) (rs : List Rec) (i : Int) : List Rec := (disK (treeOf ⟨(gs.getD i.toNat []).toArray⟩) i rs rs.length).1
def disB (gs : List (List UInt8)) (rs : List Rec) (i : Int) : Bool := prfS gs rs && inB i 0 ((gs.length : Int) - 1)
def disOk (gs : List (List UInt8)) (rs : List Rec) (i : Int) : Bool := disB gs rs i && giveF (disR gs rs i)
def disV (gs : List (List UInt8)) (rs : List Rec) (i : Int) : List Rec := if disOk gs rs i then disR gs rs i else []
theorem disV_bd (gs : List (List UInt8)) (rs : List Rec) (i : Int) : Bd_FregeStepS (disV gs rs i) := by
  unfold disV
  split
  · rename_i h
    unfold disOk at h
    rw [Bool.and_eq_true] at h
    obtain ⟨h1, h2⟩ := giveF_yes h.2
    exact ⟨by omega, fun r hr => by have := h2 r hr; omega⟩
  · exact ⟨by simp, fun r hr => by cases hr⟩
end Go.Proofs.YtapgpjhogdmjbaaDoor
