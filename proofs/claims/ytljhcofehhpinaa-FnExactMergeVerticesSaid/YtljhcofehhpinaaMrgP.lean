/-
  Two vertices of a charged graph made one: plain words.
-/
import Derived.Test.YtljhcofehhpinaaCut
namespace Go.Proofs.Ytljhcofehhpinaa
open Go.RowKit
/-- The new number of a vertex when b becomes a. -/
def ren (a b v : Int) : Int := if v = b then a else if b < v then v - 1 else v
def mrg1 (a b : Int) (e : Int × Int) : List (Int × Int) := if ren a b e.1 = ren a b e.2 then [] else [(min (ren a b e.1) (ren a b e.2), max (ren a b e.1) (ren a b e.2))]
def mrgE (a b : Int) (es : List (Int × Int)) : List (Int × Int) := es.flatMap (mrg1 a b)
theorem mrgE_succ (a b : Int) {es : List (Int × Int)} {k : Nat} (h : k < es.length) : mrgE a b (es.take (k + 1)) = mrgE a b (es.take k) ++ mrg1 a b es[k] := by
  unfold mrgE
  rw [List.take_succ_eq_append_getElem h, List.flatMap_append]
  simp
theorem mrg1_len (a b : Int) (e : Int × Int) : (mrg1 a b e).length ≤ 1 := by unfold mrg1; split <;> simp
theorem mrgE_len (a b : Int) : ∀ es : List (Int × Int), (mrgE a b es).length ≤ es.length
  | [] => by simp [mrgE]
  | e :: es => by
    have h1 := mrg1_len a b e
    have h2 := mrgE_len a b es
    unfold mrgE at *
    rw [List.flatMap_cons, List.length_append, List.length_cons]
    omega
def mrgS (cs : List Int) (a b : Nat) : Int := (cs[a]?.getD 0 + cs[b]?.getD 0) % 2
def acc1 (cs : List Int) (a b i : Nat) : List Int := if i = a then [mrgS cs a b] else if i = b then [] else [cs[i]?.getD 0]
def accC (cs : List Int) (a b v : Nat) : List Int := (List.range v).flatMap (acc1 cs a b)
theorem accC_succ (cs : List Int) (a b v : Nat) : accC cs a b (v + 1) = accC cs a b v ++ acc1 cs a b v := by simp [accC, List.range_succ]
theorem accC_len (cs : List Int) (a b : Nat) : ∀ v, (accC cs a b v).length ≤ v
  | 0 => by simp [accC]
  | v + 1 => by
    have := accC_len cs a b v
    rw [accC_succ, List.length_append]
    have : (acc1 cs a b v).length ≤ 1 := by unfold acc1; split <;> (try split) <;> simp
    omega
def mrgC (cs : List Int) (a b : Nat) : List Int := (cs.take b ++ cs.drop (b + 1)).set a (mrgS cs a b)
theorem accC_eq {cs : List Int} {a b : Nat} (hab : a < b) (hb : b < cs.length) : accC cs a b cs.length = mrgC cs a b := by
  have h1 : ∀ v, v ≤ a → accC cs a b v = cs.take v := by
    intro v
    induction v with
    | zero => intro _; simp [accC]
    | succ v ih =>
      intro hv
      rw [accC_succ, ih (by omega), List.take_succ_eq_append_getElem (by omega)]
      unfold acc1
      rw [if_neg (by omega), if_neg (by omega), List.getElem?_eq_getElem (by omega)]
      rfl
  have h2 : ∀ v, v < b - a → accC cs a b (a + 1 + v) = (cs.take (a + 1 + v)).set a (mrgS cs a b) := by
    intro v
    induction v with
    | zero =>
      intro _
      rw [Nat.add_zero, accC_succ, h1 a (Nat.le_refl _), List.take_succ_eq_append_getElem (by omega)]
      unfold acc1
      rw [if_pos rfl, List.set_append_right _ _ (by simp; omega)]
      simp [Nat.min_eq_left (show a ≤ cs.length by omega)]
    | succ v ih =>
      intro hv
      rw [← Nat.add_assoc, accC_succ, ih (by omega), List.take_succ_eq_append_getElem (by omega), List.set_append_left _ _ (by simp; omega)]
      unfold acc1
      rw [if_neg (by omega), if_neg (by omega), List.getElem?_eq_getElem (by omega)]
      rfl
  have h3 : ∀ v, b + 1 + v ≤ cs.length → accC cs a b (b + 1 + v) = (cs.take b).set a (mrgS cs a b) ++ (cs.drop (b + 1)).take v := by
    intro v
    induction v with
    | zero =>
      intro _
      rw [Nat.add_zero, accC_succ]
      have := h2 (b - a - 1) (by omega)
      rw [show a + 1 + (b - a - 1) = b from by omega] at this
      rw [this]
      unfold acc1
      rw [if_neg (by omega), if_pos rfl]
      simp
    | succ v ih =>
      intro hv
      rw [← Nat.add_assoc, accC_succ, ih (by omega), List.take_succ_eq_append_getElem (by simp; omega), List.append_assoc]
      unfold acc1
      rw [if_neg (by omega), if_neg (by omega), List.getElem?_eq_getElem (by omega)]
      simp
  have := h3 (cs.length - (b + 1)) (by omega)
  rw [show b + 1 + (cs.length - (b + 1)) = cs.length from by omega, List.take_of_length_le (l := cs.drop (b + 1)) (by simp)] at this
  rw [this]
  unfold mrgC
  rw [List.set_append_left _ _ (by simp; omega)]
theorem mrgC_len {cs : List Int} {a b : Nat} (hb : b < cs.length) : (mrgC cs a b).length = cs.length - 1 := by unfold mrgC; simp; omega
def edgeAt (g : Chg) (k : Int) : Int × Int := g.es[k.toNat]?.getD (0, 0)
def mrgG (g : Chg) (k : Int) : Chg := ⟨g.n - 1, mrgE (edgeAt g k).1 (edgeAt g k).2 g.es, mrgC g.cs (edgeAt g k).1.toNat (edgeAt g k).2.toNat⟩
def edgeB (g : Chg) (k : Int) : Bool := goodC g && inB k 0 ((g.es.length : Int) - 1)
def mrgB (g : Chg) (k : Int) : Bool := edgeB g k && goodC (mrgG g k)
def mrgV (g : Chg) (k : Int) : Chg := if mrgB g k then mrgG g k else ⟨0, [], []⟩
theorem edgeB_inv {g : Chg} {k : Int} (h : edgeB g k = true) : goodC g = true ∧ ∃ j : Nat, k = j ∧ j < g.es.length ∧ ∃ a b : Nat, edgeAt g k = ((a : Int), (b : Int)) ∧ g.es[j]? = some ((a : Int), (b : Int)) ∧ a < b ∧ b < g.cs.length := by
  unfold edgeB at h
  rw [Bool.and_eq_true] at h
  obtain ⟨hg, hk⟩ := h
  have hk := inB_iff.1 hk
  obtain ⟨j, rfl⟩ := Int.eq_ofNat_of_zero_le hk.1
  have hj : j < g.es.length := by omega
  obtain ⟨_, _, _, hn, hes, _⟩ := goodC_inv hg
  have he := hes _ (List.getElem_mem hj)
  refine ⟨hg, j, rfl, hj, (g.es[j]).1.toNat, (g.es[j]).2.toNat, ?_, ?_, by omega, by omega⟩
  · unfold edgeAt
    rw [Int.toNat_natCast, List.getElem?_eq_getElem hj, Option.getD_some]
    exact Prod.ext (by show (g.es[j]).1 = _; omega) (by show (g.es[j]).2 = _; omega)
  · rw [List.getElem?_eq_getElem hj]
    exact congrArg some (Prod.ext (by show (g.es[j]).1 = _; omega) (by show (g.es[j]).2 = _; omega))
theorem mrgV_bd (g : Chg) (k : Int) : (mrgV g k).es.length ≤ 1048576 ∧ (mrgV g k).cs.length ≤ 1048576 := by
  unfold mrgV
  split
  · rename_i h
    unfold mrgB at h
    rw [Bool.and_eq_true] at h
    have := goodC_inv h.2
    omega
  · simp
end Go.Proofs.Ytljhcofehhpinaa
