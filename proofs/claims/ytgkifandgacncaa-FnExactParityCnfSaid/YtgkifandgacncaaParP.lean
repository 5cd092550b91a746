/-
  The clauses of a parity, in plain words: sorted insertion of the clauses with an odd number of true edges gives the signings with the right parity, in order. Condition: at most four edges.
-/
import Derived.Test.YtgkifandgacncaaChg
import Derived.Test.YtgkifandgacncaaGood
namespace Go.Proofs.Ytgkifandgacncaa
open Go.RowKit
def keyL (l : Int) : Int := if l < 0 then -2 * l + 1 else 2 * l
def befX : List Int → List Int → Bool
  | x :: a, y :: b => if x = y then befX a b else decide (keyL x < keyL y)
  | _, _ => false
def befL (a b : List Int) : Bool := if a.length = b.length then befX a b else decide (a.length < b.length)
/-- The place found by halving: between f and t, with so much fuel. -/
def plc (p : Nat → Bool) : Nat → Nat → Nat → Nat
  | 0, f, _ => f
  | n + 1, f, t => if f < t then (if p ((f + t) / 2) then plc p n ((f + t) / 2 + 1) t else plc p n f ((f + t) / 2)) else f
theorem plc_stop {p : Nat → Bool} {f t : Nat} (h : ¬ f < t) : ∀ n, plc p n f t = f
  | 0 => rfl
  | n + 1 => by unfold plc; rw [if_neg h]
/-- More fuel than the gap changes nothing. -/
theorem plc_fuel {p : Nat → Bool} : ∀ (n m f t : Nat), t ≤ f + n → t ≤ f + m → plc p n f t = plc p m f t
  | 0, m, f, t, h, _ => by rw [plc_stop (by omega), plc_stop (by omega)]
  | n + 1, 0, f, t, _, h => by rw [plc_stop (by omega), plc_stop (by omega)]
  | n + 1, m + 1, f, t, h1, h2 => by
    unfold plc
    split
    · split
      · exact plc_fuel n m _ _ (by omega) (by omega)
      · exact plc_fuel n m _ _ (by omega) (by omega)
    · rfl
theorem plc_yes {p : Nat → Bool} {f t : Nat} (h : f < t) (hp : p ((f + t) / 2) = true) : plc p t f t = plc p t ((f + t) / 2 + 1) t := by
  obtain ⟨n, rfl⟩ : ∃ n, t = n + 1 := ⟨t - 1, by omega⟩
  rw [show plc p (n + 1) f (n + 1) = plc p n ((f + (n + 1)) / 2 + 1) (n + 1) from by rw [plc, if_pos h, if_pos hp]]
  exact plc_fuel _ _ _ _ (by omega) (by omega)
theorem plc_no {p : Nat → Bool} {f t : Nat} (h : f < t) (hp : p ((f + t) / 2) = false) : plc p t f t = plc p ((f + t) / 2) f ((f + t) / 2) := by
  obtain ⟨n, rfl⟩ : ∃ n, t = n + 1 := ⟨t - 1, by omega⟩
  rw [show plc p (n + 1) f (n + 1) = plc p n f ((f + (n + 1)) / 2) from by rw [plc, if_pos h, if_neg (by rw [hp]; decide)]]
  exact plc_fuel _ _ _ _ (by omega) (by omega)
theorem plc_le {p : Nat → Bool} : ∀ (n f t : Nat), f ≤ t → plc p n f t ≤ t
  | 0, f, t, h => h
  | n + 1, f, t, h => by
    unfold plc
    split
    · split
      · exact plc_le n _ _ (by omega)
      · exact Nat.le_trans (plc_le n _ _ (by omega)) (by omega)
    · exact h
theorem plc_congr {p q : Nat → Bool} : ∀ (n f t : Nat), (∀ m, m < t → p m = q m) → plc p n f t = plc q n f t
  | 0, _, _, _ => rfl
  | n + 1, f, t, h => by
    unfold plc
    split
    · rw [h _ (by omega), plc_congr n _ t h, plc_congr n f _ fun m hm => h m (by omega)]
    · rfl
def plcL (xss : List (List Int)) (c : List Int) : Nat := plc (fun m => befL (xss.getD m []) c) xss.length 0 xss.length
theorem plcL_le (xss : List (List Int)) (c : List Int) : plcL xss c ≤ xss.length := plc_le _ _ _ (Nat.zero_le _)
def foundL (xss : List (List Int)) (c : List Int) : Bool := decide (plcL xss c < xss.length) && decide (xss.getD (plcL xss c) [] = c)
def insL (xss : List (List Int)) (c : List Int) : List (List Int) := if foundL xss c then xss else xss.take (plcL xss c) ++ c :: xss.drop (plcL xss c)
theorem insL_len (xss : List (List Int)) (c : List Int) : (insL xss c).length ≤ xss.length + 1 := by
  have := plcL_le xss c
  unfold insL
  split
  · omega
  · simp; omega
/-- The same on lists of signs. -/
def befB : List Bool → List Bool → Bool
  | x :: a, y :: b => if x = y then befB a b else (!x && y)
  | _, _ => false
def plcB (bs : List (List Bool)) (c : List Bool) : Nat := plc (fun m => befB (bs.getD m []) c) bs.length 0 bs.length
def insB (bs : List (List Bool)) (c : List Bool) : List (List Bool) := if decide (plcB bs c < bs.length) && decide (bs.getD (plcB bs c) [] = c) then bs else bs.take (plcB bs c) ++ c :: bs.drop (plcB bs c)
def sgz (xs : List Int) (bs : List Bool) : List Int := List.zipWith (fun b x => if b then -x else x) bs xs
theorem sgz_len {xs : List Int} {bs : List Bool} (h : bs.length = xs.length) : (sgz xs bs).length = xs.length := by unfold sgz; rw [List.length_zipWith, h]; omega
theorem sgz_bef : ∀ (xs : List Int) (a b : List Bool), (∀ x ∈ xs, 0 < x) → a.length = xs.length → b.length = xs.length → befX (sgz xs a) (sgz xs b) = befB a b ∧ (sgz xs a = sgz xs b ↔ a = b)
  | [], a, b, _, ha, hb => by
    obtain rfl := List.length_eq_zero_iff.1 ha
    obtain rfl := List.length_eq_zero_iff.1 hb
    exact ⟨rfl, by simp⟩
  | x :: xs, [], _, _, ha, _ => by simp at ha
  | x :: xs, _ :: _, [], _, _, hb => by simp at hb
  | x :: xs, p :: a, q :: b, hp, ha, hb => by
    obtain ⟨h1, h2⟩ := sgz_bef xs a b (fun y hy => hp y (by simp [hy])) (by simpa using ha) (by simpa using hb)
    have hx := hp x (by simp)
    have e1 : sgz (x :: xs) (p :: a) = (if p then -x else x) :: sgz xs a := rfl
    have e2 : sgz (x :: xs) (q :: b) = (if q then -x else x) :: sgz xs b := rfl
    rw [e1, e2]
    have hn : ¬ -x = x := by omega
    have hn' : ¬ x = -x := by omega
    cases p <;> cases q
    · refine ⟨?_, ?_⟩
      · simp only [befX, befB, Bool.false_eq_true, ↓reduceIte]; exact h1
      · simp only [Bool.false_eq_true, ↓reduceIte, List.cons.injEq, true_and]; exact h2
    · refine ⟨?_, ?_⟩
      · simp only [befX, befB, Bool.false_eq_true, ↓reduceIte, if_neg hn', keyL]
        rw [if_neg (by omega), if_pos (by omega)]
        simp; omega
      · simp only [Bool.false_eq_true, ↓reduceIte, List.cons.injEq, false_and]; simp [hn']
    · refine ⟨?_, ?_⟩
      · simp only [befX, befB, Bool.false_eq_true, ↓reduceIte, if_neg hn, keyL]
        rw [if_pos (by omega), if_neg (by omega)]
        simp; omega
      · simp only [Bool.false_eq_true, ↓reduceIte, List.cons.injEq]; simp [hn]
    · refine ⟨?_, ?_⟩
      · simp only [befX, befB, ↓reduceIte]; exact h1
      · simp only [↓reduceIte, List.cons.injEq, true_and]; exact h2
theorem sgz_plc {xs : List Int} (hp : ∀ x ∈ xs, 0 < x) {bs : List (List Bool)} (hb : ∀ b ∈ bs, b.length = xs.length) {c : List Bool} (hc : c.length = xs.length) : plcL (bs.map (sgz xs)) (sgz xs c) = plcB bs c := by
  unfold plcL plcB
  rw [List.length_map]
  refine plc_congr _ _ _ fun m hm => ?_
  have h1 := hb _ (List.getElem_mem hm)
  simp only [List.getD, List.getElem?_map, List.getElem?_eq_getElem hm, Option.map_some, Option.getD_some]
  unfold befL
  rw [if_pos (by rw [sgz_len h1, sgz_len hc])]
  exact (sgz_bef xs _ _ hp h1 hc).1
theorem sgz_ins {xs : List Int} (hp : ∀ x ∈ xs, 0 < x) {bs : List (List Bool)} (hb : ∀ b ∈ bs, b.length = xs.length) {c : List Bool} (hc : c.length = xs.length) : insL (bs.map (sgz xs)) (sgz xs c) = (insB bs c).map (sgz xs) := by
  unfold insL insB foundL
  rw [sgz_plc hp hb hc, List.length_map]
  have e : (decide (plcB bs c < bs.length) && decide ((bs.map (sgz xs)).getD (plcB bs c) [] = sgz xs c)) = (decide (plcB bs c < bs.length) && decide (bs.getD (plcB bs c) [] = c)) := by
    by_cases h : plcB bs c < bs.length
    · have h1 := hb _ (List.getElem_mem h)
      simp only [List.getD, List.getElem?_map, List.getElem?_eq_getElem h, Option.map_some, Option.getD_some]
      rw [decide_eq_decide.2 (sgz_bef xs _ _ hp h1 hc).2]
    · simp [h]
  rw [e]
  split
  · rfl
  · rw [List.map_append, List.map_cons, List.map_take, List.map_drop]
theorem insB_mem {bs : List (List Bool)} {c : List Bool} {n : Nat} (hb : ∀ b ∈ bs, b.length = n) (hc : c.length = n) : ∀ b ∈ insB bs c, b.length = n := by
  unfold insB
  split
  · exact hb
  · intro b h
    rcases List.mem_append.1 h with h | h
    · exact hb b (List.mem_of_mem_take h)
    · rcases List.mem_cons.1 h with rfl | h
      · exact hc
      · exact hb b (List.mem_of_mem_drop h)
def bitsOf (n code : Nat) : List Bool := (List.range n).map code.testBit
theorem bitsOf_len (n code : Nat) : (bitsOf n code).length = n := by simp [bitsOf]
/-- The clause of a code, up to its i-th edge. -/
def clN (es : List Int) (code i : Nat) : List Int := (List.range i).map fun j => if code.testBit j then -(es.getD j 0 + 1) else es.getD j 0 + 1
theorem clN_succ (es : List Int) (code i : Nat) : clN es code (i + 1) = clN es code i ++ [if code.testBit i then -(es.getD i 0 + 1) else es.getD i 0 + 1] := by simp [clN, List.range_succ]
theorem clN_len (es : List Int) (code i : Nat) : (clN es code i).length = i := by simp [clN]
def popN (code : Nat) : Nat → Nat
  | 0 => 0
  | i + 1 => popN code i + (if code.testBit i then 1 else 0)
theorem popN_le (code : Nat) : ∀ i, popN code i ≤ i
  | 0 => Nat.le_refl _
  | i + 1 => by have := popN_le code i; unfold popN; split <;> omega
theorem popN_eq (code : Nat) : ∀ i, popN code i = (bitsOf i code).count true
  | 0 => rfl
  | i + 1 => by
    unfold popN
    rw [popN_eq code i]
    unfold bitsOf
    rw [List.range_succ, List.map_append, List.count_append]
    cases h : code.testBit i <;> simp [h]
theorem clN_sgz (es : List Int) (code : Nat) : clN es code es.length = sgz (es.map (· + 1)) (bitsOf es.length code) := by
  apply List.ext_getElem
  · rw [clN_len, sgz_len (by rw [bitsOf_len, List.length_map]), List.length_map]
  · intro i h1 h2
    rw [clN_len] at h1
    simp [clN, sgz, bitsOf, List.getD, h1]
/-- The clauses that the reference collects up to a code. -/
def spcC (es : List Int) (ch : Int) (m : Nat) : List (List Int) := (List.range m).foldl (fun out code => if (ch + (popN code es.length : Int)).tmod 2 = 1 then insL out (clN es code es.length) else out) []
theorem spcC_succ (es : List Int) (ch : Int) (m : Nat) : spcC es ch (m + 1) = if (ch + (popN m es.length : Int)).tmod 2 = 1 then insL (spcC es ch m) (clN es m es.length) else spcC es ch m := by
  unfold spcC
  rw [List.range_succ, List.foldl_append]
  rfl
theorem spcC_len (es : List Int) (ch : Int) : ∀ m, (spcC es ch m).length ≤ m
  | 0 => by simp [spcC]
  | m + 1 => by
    have h1 := spcC_len es ch m
    rw [spcC_succ]
    split
    · have := insL_len (spcC es ch m) (clN es m es.length); omega
    · omega
def parB (n : Nat) (ch m : Nat) : List (List Bool) := (List.range m).foldl (fun out code => if (ch + (bitsOf n code).count true) % 2 = 1 then insB out (bitsOf n code) else out) []
theorem parB_succ (n ch m : Nat) : parB n ch (m + 1) = if (ch + (bitsOf n m).count true) % 2 = 1 then insB (parB n ch m) (bitsOf n m) else parB n ch m := by
  unfold parB
  rw [List.range_succ, List.foldl_append]
  rfl
theorem parB_mem (n ch : Nat) : ∀ m, ∀ b ∈ parB n ch m, b.length = n
  | 0 => by simp [parB]
  | m + 1 => by
    rw [parB_succ]
    split
    · exact insB_mem (parB_mem n ch m) (bitsOf_len n m)
    · exact parB_mem n ch m
theorem spcC_eq {es : List Int} (hp : ∀ x ∈ es, 0 ≤ x) (ch : Nat) : ∀ m, spcC es ch m = (parB es.length ch m).map (sgz (es.map (· + 1)))
  | 0 => rfl
  | m + 1 => by
    have hp' : ∀ x ∈ es.map (· + 1), 0 < x := fun x hx => by
      obtain ⟨y, hy, rfl⟩ := List.mem_map.1 hx
      have := hp y hy; omega
    rw [spcC_succ, parB_succ, spcC_eq hp ch m, clN_sgz, popN_eq]
    have e : ((ch : Int) + ((bitsOf es.length m).count true : Int)).tmod 2 = 1 ↔ (ch + (bitsOf es.length m).count true) % 2 = 1 := by
      rw [Int.tmod_eq_emod_of_nonneg (by omega)]; omega
    by_cases h : (ch + (bitsOf es.length m).count true) % 2 = 1
    · rw [if_pos h, if_pos (e.2 h)]
      exact sgz_ins hp' (fun b hb => by rw [List.length_map]; exact parB_mem _ _ _ b hb) (by rw [bitsOf_len, List.length_map])
    · rw [if_neg h, if_neg fun x => h (e.1 x)]
/-- All signings, in order. -/
def two (v : Int) (c : List Int) : List (List Int) := [c ++ [v], c ++ [-v]]
def sgn (xs : List Int) : List (List Int) := xs.foldl (fun out v => out.flatMap (two v)) [[]]
theorem sgn_snoc (xs : List Int) (v : Int) : sgn (xs ++ [v]) = (sgn xs).flatMap (two v) := by
  unfold sgn
  rw [List.foldl_append]
  rfl
theorem sgn_succ {xs : List Int} {k : Nat} (h : k < xs.length) : sgn (xs.take (k + 1)) = (sgn (xs.take k)).flatMap (two xs[k]) := by rw [List.take_succ_eq_append_getElem h, sgn_snoc]
def allB : Nat → List (List Bool)
  | 0 => [[]]
  | n + 1 => (allB n).flatMap fun b => [b ++ [false], b ++ [true]]
theorem allB_mem : ∀ n, ∀ b ∈ allB n, b.length = n
  | 0, b, h => by simp [allB] at h; simp [h]
  | n + 1, b, h => by
    unfold allB at h
    obtain ⟨a, ha, h⟩ := List.mem_flatMap.1 h
    have := allB_mem n a ha
    rcases List.mem_cons.1 h with rfl | h
    · simp [this]
    · obtain rfl := List.mem_singleton.1 h
      simp [this]
theorem sgn_take (xs : List Int) : ∀ k, k ≤ xs.length → sgn (xs.take k) = (allB k).map (sgz (xs.take k))
  | 0, _ => by simp [sgn, allB, sgz]
  | k + 1, h => by
    rw [sgn_succ h, sgn_take xs k (by omega), allB, List.map_flatMap, List.flatMap_map]
    rw [List.take_succ_eq_append_getElem h]
    have hl : (xs.take k).length = k := by rw [List.length_take]; omega
    have key : ∀ b ∈ allB k, two xs[k] (sgz (xs.take k) b) = [b ++ [false], b ++ [true]].map (sgz (xs.take k ++ [xs[k]])) := fun b hb => by
      have hb := allB_mem k b hb
      unfold two sgz
      rw [List.map_cons, List.map_cons, List.map_nil, List.zipWith_append (by rw [hb, hl]), List.zipWith_append (by rw [hb, hl])]
      rfl
    rw [List.flatMap_def, List.flatMap_def]
    congr 1
    exact List.map_congr_left key
theorem sgn_eq (xs : List Int) : sgn xs = (allB xs.length).map (sgz xs) := by
  have := sgn_take xs xs.length (Nat.le_refl _)
  rwa [List.take_length] at this
def negN : List Int → Int
  | [] => 0
  | x :: r => (if x < 0 then 1 else 0) + negN r
theorem negN_snoc (xs : List Int) (x : Int) : negN (xs ++ [x]) = negN xs + (if x < 0 then 1 else 0) := by
  induction xs with
  | nil => simp [negN]
  | cons y r ih => rw [List.cons_append, negN, negN, ih]; omega
theorem negN_bd : ∀ xs : List Int, 0 ≤ negN xs ∧ negN xs ≤ xs.length
  | [] => by simp [negN]
  | x :: r => by
    have := negN_bd r
    unfold negN
    rw [List.length_cons]
    split <;> omega
theorem negN_sgz : ∀ (xs : List Int) (b : List Bool), (∀ x ∈ xs, 0 < x) → b.length = xs.length → negN (sgz xs b) = (b.count true : Int)
  | [], b, _, h => by obtain rfl := List.length_eq_zero_iff.1 h; rfl
  | x :: xs, [], _, h => by simp at h
  | x :: xs, p :: b, hp, h => by
    have ih := negN_sgz xs b (fun y hy => hp y (by simp [hy])) (by simpa using h)
    have hx := hp x (by simp)
    have e1 : sgz (x :: xs) (p :: b) = (if p then -x else x) :: sgz xs b := rfl
    rw [e1, negN, ih]
    cases p
    · have : ¬ x < 0 := by omega
      simp [this]
    · have : -x < 0 := by omega
      simp; omega
def keepX (odd : Bool) (c : List Int) : Bool := decide ((negN c).tmod 2 = 0) == odd
def xorL (xs : List Int) (odd : Bool) : List (List Int) := (sgn xs).filter (keepX odd)
theorem par_all : ∀ n : Fin 5, ∀ ch : Fin 2, parB n.1 ch.1 (2 ^ n.1) = (allB n.1).filter (fun b => decide (b.count true % 2 = 0) == decide (ch.1 = 1)) := by decide +kernel
theorem par_len : ∀ n : Fin 5, ∀ ch : Fin 2, (parB n.1 ch.1 (2 ^ n.1)).length ≤ 2 * n.1 + 1 := by decide +kernel
/-- Both ways give the same clauses. -/
theorem par_eq {es : List Int} (hp : ∀ x ∈ es, 0 ≤ x) (hl : es.length ≤ 4) {ch : Nat} (hc : ch ≤ 1) : spcC es ch (2 ^ es.length) = xorL (es.map (· + 1)) (decide ((ch : Int) = 1)) := by
  rw [spcC_eq hp, par_all ⟨es.length, by omega⟩ ⟨ch, by omega⟩]
  unfold xorL
  rw [sgn_eq, List.length_map, List.filter_map]
  congr 1
  apply List.filter_congr
  intro b hb
  have hp' : ∀ x ∈ es.map (· + 1), 0 < x := fun x hx => by
    obtain ⟨y, hy, rfl⟩ := List.mem_map.1 hx
    have := hp y hy; omega
  show _ = keepX _ (sgz _ b)
  unfold keepX
  rw [negN_sgz _ _ hp' (by rw [List.length_map]; exact allB_mem _ _ hb), Int.tmod_eq_emod_of_nonneg (by omega)]
  have e1 : decide (List.count true b % 2 = 0) = decide ((List.count true b : Int) % 2 = 0) := decide_eq_decide.2 (by omega)
  have e2 : decide (ch = 1) = decide ((ch : Int) = 1) := decide_eq_decide.2 (by omega)
  rw [e1]
  exact congrArg (fun z => decide ((List.count true b : Int) % 2 = 0) == z) e2
end Go.Proofs.Ytgkifandgacncaa
