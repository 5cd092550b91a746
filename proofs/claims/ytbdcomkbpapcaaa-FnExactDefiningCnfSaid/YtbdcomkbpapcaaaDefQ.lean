import Derived.Test.YtbdcomkbpapcaaaMg5
import Derived.Test.YtbdcomkbpapcaaaTreeB
import Derived.Test.YtbdcomkbpapcaaaFmI
/-
  DefiningCnf in plain words: the numbers of the parts and the clauses, on both sides. No condition.
-/

namespace Go.Proofs.Ytbdcomkbpapcaaa
open Go.RowKit Go.Sort
def letT : Bs → Bool
  | [c] => letB c
  | _ => false
def othB (f : Fm) : List Bs := (partsB f).filter fun t => !letT t
def idxN : List Bs → Bs → Int → Int
  | [], _, _ => 0
  | x :: r, t, k => if x = t then k else idxN r t (k + 1)
def letN (t : Bs) : Int := ((t.headD 0).toNat : Int) - 97 + 1
def varN (oth : List Bs) (t : Bs) : Int := if letT t then letN t else idxN oth t 7
def kidN (oth : List Bs) (t : Bs) : Int := if t = [] then 0 else varN oth t
def rawD (y : Fm) (v x z : Int) : List (List Int) := match y with
  | .leaf c => if c = 48 then [[-v]] else [[v]]
  | .neg _ => [[x, v], [-x, -v]]
  | .bin o _ _ => if o = 38 then [[x, -v], [z, -v], [-x, -z, v]] else if o = 124 then [[-x, v], [-z, v], [x, z, -v]] else [[x, v], [-z, v], [-x, z, -v]]
def outD (y : Fm) (v x z : Int) : List (List Int) := (rawD y v x z).filterMap clO
def clsD (oth : List Bs) (t : Bs) (v : Int) : List (List Int) := outD (treeB t) v (kidN oth (kA (treeB t))) (kidN oth (kB (treeB t)))
def allD (oth : List Bs) (k : Nat) : List (List Int) := (List.range k).flatMap fun i : Nat => clsD oth (oth.getD i []) ((i : Int) + 7)
def defF (f : Fm) : Cnf := ⟨6 + ((othB f).length : Int), allD (othB f) (othB f).length ++ [[varN (othB f) (txt f)]]⟩
def defV (s : ByteArray) : Cnf := match goodF s with
  | some f => if (othB f).length ≤ 6 then defF f else ⟨0, []⟩
  | none => ⟨0, []⟩
def defB (s : ByteArray) : Bool := match goodF s with
  | some f => decide ((othB f).length ≤ 6)
  | none => false
theorem allD_succ (oth : List Bs) (k : Nat) : allD oth (k + 1) = allD oth k ++ clsD oth (oth.getD k []) ((k : Int) + 7) := by simp [allD, List.range_succ]
/-- The program's way: the numbers in the map, and the clauses. -/
def initA : List (Bs × Int) := (List.range 6).map fun i : Nat => ([UInt8.ofNat (97 + i)], (i : Int) + 1)
def numL (L : List Bs) : List (Bs × Int) := L.zipIdx.map fun p => (p.1, (p.2 : Int) + 7)
theorem numL_snoc (L : List Bs) (t : Bs) : numL (L ++ [t]) = numL L ++ [(t, (L.length : Int) + 7)] := by simp [numL, List.zipIdx_append]
theorem numL_len (L : List Bs) : (numL L).length = L.length := by simp [numL]
def kN (acc : List (Bs × Int)) (t : Bs) : Int := if t = [] then 0 else lkB acc t
abbrev SD := List (Bs × Int) × List (List Int)
def stepD (s : SD) (y : Fm) : SD :=
  if letT (txt y) then s else (s.1 ++ [(txt y, (s.1.length : Int) + 1)], s.2 ++ outD y ((s.1.length : Int) + 1) (kN (s.1 ++ [(txt y, (s.1.length : Int) + 1)]) (kA y)) (kN (s.1 ++ [(txt y, (s.1.length : Int) + 1)]) (kB y)))
def runD (ys : List Fm) (k : Nat) : SD := (ys.take k).foldl stepD (initA, [])
theorem runD_succ (ys : List Fm) {k : Nat} (h : k < ys.length) : runD ys (k + 1) = stepD (runD ys k) ys[k] := by
  unfold runD
  rw [List.take_succ_eq_append_getElem h, List.foldl_append]
  rfl
theorem idxN_app (L R : List Bs) (a : Bs) : ∀ k : Int, idxN (L ++ R) a k = if a ∈ L then idxN L a k else idxN R a (k + L.length) := by
  induction L with
  | nil => intro k; simp
  | cons x r ih =>
    intro k
    show (if x = a then k else idxN (r ++ R) a (k + 1)) = _
    by_cases hx : x = a
    · rw [if_pos hx, if_pos (by simp [hx])]
      show k = if x = a then k else _
      rw [if_pos hx]
    · rw [if_neg hx, ih (k + 1)]
      by_cases hm : a ∈ r
      · rw [if_pos hm, if_pos (by simp [hm])]
        show _ = if x = a then k else _
        rw [if_neg hx]
      · rw [if_neg hm, if_neg (by simp; exact ⟨fun e => hx e.symm, hm⟩)]
        congr 1
        simp only [List.length_cons]
        omega
theorem idxN_bd (L : List Bs) (a : Bs) : ∀ k : Int, a ∈ L → k ≤ idxN L a k ∧ idxN L a k < k + L.length := by
  induction L with
  | nil => intro k h; cases h
  | cons x r ih =>
    intro k h
    show k ≤ (if x = a then k else idxN r a (k + 1)) ∧ (if x = a then k else idxN r a (k + 1)) < _
    simp only [List.length_cons]
    split
    · omega
    · rename_i hx
      have := ih (k + 1) (by
        rcases List.mem_cons.1 h with h | h
        · exact absurd h.symm hx
        · exact h)
      omega
theorem lk_num (A : List (Bs × Int)) (a : Bs) : ∀ (n : Nat) (L : List Bs), L.length = n → (a ∉ L → lkB (A ++ numL L) a = lkB A a) ∧ (L.Nodup → a ∈ L → lkB (A ++ numL L) a = idxN L a 7)
  | 0, L, h => by
    obtain rfl : L = [] := List.eq_nil_of_length_eq_zero h
    exact ⟨fun _ => by simp [numL], fun _ h => by cases h⟩
  | n + 1, L, h => by
    rcases List.eq_nil_or_concat L with rfl | ⟨M, t, rfl⟩
    · cases h
    · rw [List.concat_eq_append] at *
      have hM : M.length = n := by simpa using h
      obtain ⟨i1, i2⟩ := lk_num A a n M hM
      rw [numL_snoc, ← List.append_assoc, lkB_snoc]
      refine ⟨fun hn => ?_, fun hd' hm => ?_⟩
      · simp only [List.mem_append, List.mem_singleton, not_or] at hn
        have : (t == a) = false := by simp; exact fun e => hn.2 e.symm
        simp only [this]
        exact i1 hn.1
      · rw [idxN_app]
        rw [List.nodup_append] at hd'
        by_cases hta : t = a
        · subst hta
          have hnm : t ∉ M := fun hx => hd'.2.2 t hx t (by simp) rfl
          rw [if_neg hnm]
          show (if (t == t) = true then _ else _) = (if t = t then _ else _)
          rw [if_pos (by simp), if_pos rfl]
          omega
        · have hmM : a ∈ M := by
            rcases List.mem_append.1 hm with h | h
            · exact h
            · exact absurd (List.mem_singleton.1 h).symm hta
          rw [if_pos hmM]
          have : (t == a) = false := by simpa using hta
          simp only [this]
          exact i2 hd'.1 hmM
theorem letT_iff {t : Bs} : letT t = true ↔ ∃ i : Nat, i < 6 ∧ t = [UInt8.ofNat (97 + i)] := by
  constructor
  · intro h
    match t, h with
    | [c], h =>
      unfold letT letB at h
      simp only [Bool.and_eq_true, decide_eq_true_eq] at h
      refine ⟨c.toNat - 97, by omega, ?_⟩
      congr 1
      apply UInt8.toNat_inj.1
      rw [UInt8.toNat_ofNat_of_lt' (by show _ < 256; omega)]
      omega
  · rintro ⟨i, hi, rfl⟩
    have : i = 0 ∨ i = 1 ∨ i = 2 ∨ i = 3 ∨ i = 4 ∨ i = 5 := by omega
    rcases this with rfl | rfl | rfl | rfl | rfl | rfl <;> decide
theorem lk_init {t : Bs} (h : letT t = true) : lkB initA t = letN t := by
  obtain ⟨i, hi, rfl⟩ := letT_iff.1 h
  have : i = 0 ∨ i = 1 ∨ i = 2 ∨ i = 3 ∨ i = 4 ∨ i = 5 := by omega
  rcases this with rfl | rfl | rfl | rfl | rfl | rfl <;> decide
theorem letN_bd {t : Bs} (h : letT t = true) : 1 ≤ letN t ∧ letN t ≤ 6 := by
  obtain ⟨i, hi, rfl⟩ := letT_iff.1 h
  have : i = 0 ∨ i = 1 ∨ i = 2 ∨ i = 3 ∨ i = 4 ∨ i = 5 := by omega
  rcases this with rfl | rfl | rfl | rfl | rfl | rfl <;> decide
/-- A part's parts are parts. -/
theorem self_subs (f : Fm) : f ∈ subs f := by cases f <;> simp [subs]
theorem subs_kid : ∀ (f y : Fm), y ∈ subs f → (∀ a, y = .neg a → a ∈ subs f) ∧ ∀ o a b, y = .bin o a b → a ∈ subs f ∧ b ∈ subs f
  | .leaf c, y, h => by
    obtain rfl := List.mem_singleton.1 h
    exact ⟨(fun a e => by cases e), (fun o a b e => by cases e)⟩
  | .neg g, y, h => by
    rcases List.mem_cons.1 h with rfl | h
    · exact ⟨(fun a e => by cases e; exact List.mem_cons_of_mem _ (self_subs _)), (fun o a b e => by cases e)⟩
    · have ih := subs_kid g y h
      exact ⟨fun a e => List.mem_cons_of_mem _ (ih.1 a e), fun o a b e => ⟨List.mem_cons_of_mem _ (ih.2 o a b e).1, List.mem_cons_of_mem _ (ih.2 o a b e).2⟩⟩
  | .bin o g1 g2, y, h => by
    rcases List.mem_cons.1 h with rfl | h
    · exact ⟨(fun a e => by cases e), (fun o a b e => by
        cases e
        exact ⟨List.mem_cons_of_mem _ (List.mem_append.2 (.inl (self_subs _))), List.mem_cons_of_mem _ (List.mem_append.2 (.inr (self_subs _)))⟩)⟩
    · rcases List.mem_append.1 h with h | h
      · have ih := subs_kid g1 y h
        exact ⟨fun a e => List.mem_cons_of_mem _ (List.mem_append.2 (.inl (ih.1 a e))), fun o a b e => ⟨List.mem_cons_of_mem _ (List.mem_append.2 (.inl (ih.2 o a b e).1)), List.mem_cons_of_mem _ (List.mem_append.2 (.inl (ih.2 o a b e).2))⟩⟩
      · have ih := subs_kid g2 y h
        exact ⟨fun a e => List.mem_cons_of_mem _ (List.mem_append.2 (.inr (ih.1 a e))), fun o a b e => ⟨List.mem_cons_of_mem _ (List.mem_append.2 (.inr (ih.2 o a b e).1)), List.mem_cons_of_mem _ (List.mem_append.2 (.inr (ih.2 o a b e).2))⟩⟩
theorem mem_partsB {f : Fm} {x : Bs} : x ∈ partsB f ↔ ∃ y ∈ subs f, txt y = x := by
  unfold partsB
  rw [(sortB_spec _).2, List.mem_map]
theorem kid_part {f : Fm} (hw : WfF f = true) {x : Bs} (hx : x ∈ partsB f) : (kA (treeB x) = [] ∨ (kA (treeB x) ∈ partsB f ∧ befB (kA (treeB x)) x = true)) ∧ (kB (treeB x) = [] ∨ (kB (treeB x) ∈ partsB f ∧ befB (kB (treeB x)) x = true)) := by
  obtain ⟨y, hy, rfl⟩ := mem_partsB.1 hx
  have hwy := subs_wf f hw y hy
  rw [treeB_txt hwy]
  obtain ⟨k1, k2⟩ := subs_kid f y hy
  cases y with
  | leaf c => exact ⟨.inl rfl, .inl rfl⟩
  | neg a => exact ⟨.inr ⟨mem_partsB.2 ⟨a, k1 a rfl, rfl⟩, befB_iff.2 (.inl (by simp [kA, txt]))⟩, .inl rfl⟩
  | bin o a b => exact ⟨.inr ⟨mem_partsB.2 ⟨a, (k2 o a b rfl).1, rfl⟩, befB_iff.2 (.inl (by simp [kA, txt]; omega))⟩, .inr ⟨mem_partsB.2 ⟨b, (k2 o a b rfl).2, rfl⟩, befB_iff.2 (.inl (by simp [kB, txt]; omega))⟩⟩
/-- The other parts among the first k. -/
def othK (f : Fm) (k : Nat) : List Bs := ((partsB f).take k).filter fun t => !letT t
theorem othK_all (f : Fm) : othK f (partsB f).length = othB f := by unfold othK othB; rw [List.take_length]
theorem othK_pre (f : Fm) (k : Nat) : othB f = othK f k ++ ((partsB f).drop k).filter fun t => !letT t := by
  unfold othB othK
  rw [← List.filter_append, List.take_append_drop]
theorem othK_succ {f : Fm} {k : Nat} (h : k < (partsB f).length) : othK f (k + 1) = othK f k ++ if letT (partsB f)[k] then [] else [(partsB f)[k]] := by
  unfold othK
  rw [List.take_succ_eq_append_getElem h, List.filter_append]
  congr 1
  cases hh : letT (partsB f)[k] <;> simp [hh]
theorem othK_len (f : Fm) (k : Nat) : (othK f k).length ≤ k := Nat.le_trans (List.length_filter_le _ _) (by rw [List.length_take]; exact Nat.min_le_left _ _)
theorem partsB_asc (f : Fm) : Asc (partsB f) := (sortB_spec _).1
theorem othK_nodup (f : Fm) (k : Nat) : (othK f k).Nodup := by
  have h1 : (partsB f).Nodup := (partsB_asc f).imp fun {a b} h e => by
    subst e
    rw [befB_irr] at h
    cases h
  exact ((h1.sublist (List.take_sublist _ _)).filter _)
theorem oth_let {f : Fm} {k : Nat} {a : Bs} (h : letT a = true) : a ∉ othK f k := fun hm => by
  have := (List.mem_filter.1 hm).2
  rw [h] at this
  cases this
theorem before_mem {f : Fm} {k : Nat} (h : k < (partsB f).length) {a : Bs} (ha : a ∈ partsB f) (hb : befB a (partsB f)[k] = true) (hl : letT a = false) : a ∈ othK f k := by
  obtain ⟨j, hj, rfl⟩ := List.mem_iff_getElem.1 ha
  have hjk : j < k := by
    rcases Nat.lt_trichotomy j k with h1 | h1 | h1
    · exact h1
    · subst h1; rw [befB_irr] at hb; cases hb
    · have := List.pairwise_iff_getElem.1 (partsB_asc f) k j h hj h1
      rw [befB_asym this] at hb
      cases hb
  refine List.mem_filter.2 ⟨?_, by rw [hl]; rfl⟩
  exact List.mem_iff_getElem.2 ⟨j, by rw [List.length_take]; omega, by rw [List.getElem_take]⟩
theorem initA_len : initA.length = 6 := rfl
/-- What the map has for a part that lies ahead, and its bounds. -/
theorem kid_eq {f : Fm} {k : Nat} (h : k < (partsB f).length) (R : List Bs) {a : Bs} (ha : a = [] ∨ (a ∈ partsB f ∧ befB a (partsB f)[k] = true)) (hR : (othK f k ++ R).Nodup) (hp : ∃ S, othB f = othK f k ++ R ++ S) (hRl : ∀ x ∈ R, letT x = false) :
    kN (initA ++ numL (othK f k ++ R)) a = kidN (othB f) a ∧ (a ≠ [] → 1 ≤ kidN (othB f) a ∧ kidN (othB f) a < ((othK f k).length : Int) + 7) := by
  by_cases h0 : a = []
  · subst h0
    exact ⟨rfl, fun h => absurd rfl h⟩
  rcases ha with ha | ⟨ha, hb⟩
  · exact absurd ha h0
  unfold kN kidN
  rw [if_neg h0, if_neg h0]
  unfold varN
  obtain ⟨S, hS⟩ := hp
  cases hl : letT a with
  | true =>
    have hb := letN_bd hl
    rw [if_pos rfl, ((lk_num initA a _ _ rfl).1 (fun hm => by
      rcases List.mem_append.1 hm with hm | hm
      · exact oth_let hl hm
      · rw [hRl a hm] at hl; cases hl)), lk_init hl]
    exact ⟨rfl, fun _ => by omega⟩
  | false =>
    have hm := before_mem h ha hb hl
    have hm2 : a ∈ othK f k ++ R := List.mem_append.2 (.inl hm)
    rw [if_neg (by simp), (lk_num initA a _ _ rfl).2 hR hm2, hS, idxN_app _ S, if_pos hm2]
    refine ⟨rfl, fun _ => ?_⟩
    rw [idxN_app _ R, if_pos hm]
    have := idxN_bd _ _ 7 hm
    omega
theorem getD_app {α : Type} (A B : List α) (x d : α) : (A ++ x :: B).getD A.length d = x := by simp [List.getD]
theorem runD_eq {f : Fm} (hw : WfF f = true) : ∀ k, k ≤ (partsB f).length → runD (partsT f) k = (initA ++ numL (othK f k), allD (othB f) (othK f k).length)
  | 0, _ => by simp [runD, othK, numL, allD]
  | k + 1, h => by
    have hk : k < (partsB f).length := by omega
    have hkT : k < (partsT f).length := by rw [partsT_len]; exact hk
    have hpt := partsT_mem hw (List.getElem_mem hk)
    have hky : (partsT f)[k] = treeB (partsB f)[k] := by simp [partsT]
    rw [runD_succ _ hkT, runD_eq hw k (by omega), hky, othK_succ hk]
    unfold stepD
    rw [hpt.1]
    cases hl : letT (partsB f)[k] with
    | true => simp
    | false =>
      have hS : othB f = othK f k ++ [(partsB f)[k]] ++ ((partsB f).drop (k + 1)).filter fun t => !letT t := by
        have := othK_pre f (k + 1)
        rw [othK_succ hk, hl] at this
        simpa using this
      have hN : (othK f k ++ [(partsB f)[k]]).Nodup := by
        have := othK_nodup f (k + 1)
        rw [othK_succ hk, hl] at this
        simpa using this
      obtain ⟨ka, kb⟩ := kid_part hw (List.getElem_mem hk)
      have e1 := (kid_eq hk [(partsB f)[k]] ka hN ⟨_, hS⟩ (by simpa using hl)).1
      have e2 := (kid_eq hk [(partsB f)[k]] kb hN ⟨_, hS⟩ (by simpa using hl)).1
      have eL : ((initA ++ numL (othK f k)).length : Int) + 1 = ((othK f k).length : Int) + 7 := by
        rw [List.length_append, initA_len, numL_len]; omega
      have eA : initA ++ numL (othK f k) ++ [((partsB f)[k], ((othK f k).length : Int) + 7)] = initA ++ numL (othK f k ++ [(partsB f)[k]]) := by rw [numL_snoc, List.append_assoc]
      have eD : (othB f).getD (othK f k).length [] = (partsB f)[k] := by
        rw [hS, List.append_assoc]
        exact getD_app _ _ _ _
      simp only [Bool.false_eq_true, if_false]
      rw [eL, eA, e1, e2, List.length_append, List.length_singleton, allD_succ, eD]
      rfl
/-- Each of the raw lists is such as the program's sorting treats well. -/
theorem rawD_ok {y : Fm} {v x z : Int} (hv : 1 ≤ v ∧ v ≤ 500) (hx : kA y ≠ [] → 1 ≤ x ∧ x < v) (hz : kB y ≠ [] → 1 ≤ z ∧ z < v) : ∀ xs ∈ rawD y v x z, ClOk xs ∧ xs.length ≤ 3 ∧ ∀ l ∈ xs, -1000 ≤ l ∧ l ≤ 1000 := by
  have a1 : ∀ n : Int, 0 ≤ n → absI n = n := fun n h => by unfold absI; rw [if_neg (by omega)]
  have a2 : ∀ n : Int, 0 ≤ n → absI (-n) = n := fun n h => by unfold absI; split <;> omega
  cases y with
  | leaf c =>
    intro xs h
    simp only [rawD] at h
    split at h
    · obtain rfl := List.mem_singleton.1 h
      exact ⟨clOk1 (by omega), by simp, by simp; omega⟩
    · obtain rfl := List.mem_singleton.1 h
      exact ⟨clOk1 (by omega), by simp, by simp; omega⟩
  | neg a =>
    have hx := hx (fun e => by have := txt_pos a; simp only [kA] at e; rw [e] at this; simp at this)
    intro xs h
    simp only [rawD, List.mem_cons, List.not_mem_nil, or_false] at h
    rcases h with rfl | rfl
    · exact ⟨clOk2 (by omega) (by omega) (by rw [a1 _ (by omega), a1 _ (by omega)]; omega), by simp, by simp; omega⟩
    · exact ⟨clOk2 (by omega) (by omega) (by rw [a2 _ (by omega), a2 _ (by omega)]; omega), by simp, by simp; omega⟩
  | bin o a b =>
    have hx := hx (fun e => by have := txt_pos a; simp only [kA] at e; rw [e] at this; simp at this)
    have hz := hz (fun e => by have := txt_pos b; simp only [kB] at e; rw [e] at this; simp at this)
    have x1 := a1 x (by omega)
    have x2 := a2 x (by omega)
    have z1 := a1 z (by omega)
    have z2 := a2 z (by omega)
    have v1 := a1 v (by omega)
    have v2 := a2 v (by omega)
    intro xs h
    unfold rawD at h
    simp only at h
    split at h
    · simp only [List.mem_cons, List.not_mem_nil, or_false] at h
      rcases h with rfl | rfl | rfl
      · exact ⟨clOk2 (by omega) (by omega) (by omega), by simp, by simp; omega⟩
      · exact ⟨clOk2 (by omega) (by omega) (by omega), by simp, by simp; omega⟩
      · exact ⟨clOk3 (by omega) (by omega) (by omega) (by omega) (by omega) (by omega), by simp, by simp; omega⟩
    · split at h
      · simp only [List.mem_cons, List.not_mem_nil, or_false] at h
        rcases h with rfl | rfl | rfl
        · exact ⟨clOk2 (by omega) (by omega) (by omega), by simp, by simp; omega⟩
        · exact ⟨clOk2 (by omega) (by omega) (by omega), by simp, by simp; omega⟩
        · exact ⟨clOk3 (by omega) (by omega) (by omega) (by omega) (by omega) (by omega), by simp, by simp; omega⟩
      · simp only [List.mem_cons, List.not_mem_nil, or_false] at h
        rcases h with rfl | rfl | rfl
        · exact ⟨clOk2 (by omega) (by omega) (by omega), by simp, by simp; omega⟩
        · exact ⟨clOk2 (by omega) (by omega) (by omega), by simp, by simp; omega⟩
        · exact ⟨clOk3 (by omega) (by omega) (by omega) (by omega) (by omega) (by omega), by simp, by simp; omega⟩
end Go.Proofs.Ytbdcomkbpapcaaa
