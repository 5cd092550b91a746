/-
  Facts of the program's head that every statement of this seat asks for. No condition.
-/
import Derived.Test.YtapgpjhogdmjbaaRows
import Derived.ProofKit
import Derived.JoinedOf
namespace Go.Proofs.Ytapgpjhogdmjbaa
open Go.RowKit
theorem toList_of {s : String} {l : List Char} (h : s = String.ofList l) : s.toList = l := by rw [h, String.toList_ofList]
theorem ws_app : ∀ (a r : List Char), (∀ c ∈ a, c ≠ Char.ofNat 32) → wordsSigns (a ++ Char.ofNat 32 :: r) = a :: wordsSigns r
  | [], r, _ => rfl
  | c :: a, r, h => by
    have ih := ws_app a r fun x hx => h x (by simp [hx])
    have hc : c ≠ Char.ofNat 32 := h c (by simp)
    rw [List.cons_append, wordsSigns, ih]
    exact hc
theorem ws_cut (l : List Char) (n : Nat) (h : ((l.take n).all (fun c => c != Char.ofNat 32) && ((l.drop n).head? == some (Char.ofNat 32))) = true) : wordsSigns l = l.take n :: wordsSigns (l.drop (n + 1)) := by
  rw [Bool.and_eq_true, List.all_eq_true, beq_iff_eq] at h
  have e : l = l.take n ++ Char.ofNat 32 :: l.drop (n + 1) := by
    conv => lhs; rw [← List.take_append_drop n l]
    congr 1
    cases hd : l.drop n with
    | nil => rw [hd] at h; cases h.2
    | cons x r =>
      rw [hd] at h
      have hx : x = Char.ofNat 32 := by simpa using h.2
      have : l.drop (n + 1) = r := by rw [← List.drop_drop, hd]; rfl
      rw [this, hx]
  conv => lhs; rw [e]
  exact ws_app _ _ fun c hc => by simpa using h.1 c hc
set_option maxRecDepth 1000000 in
theorem words_of : ∃ L : List Char, wordsSigns Try.checked.prog.initOrder.toList = L.take 7 :: (L.drop 8).take 64 :: ((L.drop 8).drop 65).take 3 :: wordsSigns (((L.drop 8).drop 65).drop 4) ∧ L.take 7 = "harness".toList ∧ isSumSigns ((L.drop 8).take 64) = true ∧ ((L.drop 8).drop 65).take 3 = "cut".toList := by
  have e := toList_of (s := Try.checked.prog.initOrder) rfl
  refine ⟨_, by rw [e, ws_cut _ 7 (by decide +kernel), ws_cut _ 64 (by decide +kernel), ws_cut _ 3 (by decide +kernel)], by decide +kernel, by decide +kernel, by decide +kernel⟩
theorem behind_h {s : List Char} {r : List (List Char)} (h : isSumSigns s = true) : behindMainWord ("harness".toList :: s :: r) = r := by
  show (if (("harness".toList == "harness".toList || "harness".toList == "ownmain".toList) && isSumSigns s) = true then r else _) = r
  rw [if_pos (by rw [h]; rfl)]
theorem behind_of : ∃ r, behindMainWord (wordsSigns Try.checked.prog.initOrder.toList) = "cut".toList :: r := by
  obtain ⟨L, h1, h2, h3, h4⟩ := words_of
  exact ⟨_, by rw [h1, h2, h4, behind_h h3]⟩
theorem make_cut (P : Program) (r : List (List Char)) (h : behindMainWord (wordsSigns P.initOrder.toList) = "cut".toList :: r) : P.make = some .cut := by
  unfold Program.make
  rw [h]
  generalize Program.headLifts _ = hl
  change _ = some _
  kernel_rfl
theorem lifts_cut (P : Program) (r : List (List Char)) (h : behindMainWord (wordsSigns P.initOrder.toList) = "cut".toList :: r) : P.liftsFinal = false := by
  unfold Program.liftsFinal Program.headLifts
  rw [h]
  change _ = false
  kernel_rfl
theorem strip_of (r : List (List Char)) : stripLifts liftWords ("cut".toList :: r) = ([], "cut".toList :: r) := by kernel_rfl
theorem enter_cut (P : Program) (r : List (List Char)) (h : behindMainWord (wordsSigns P.initOrder.toList) = "cut".toList :: r) (a1 : P.laysLater = false) (a2 : P.bearsReflect = false) (a3 : P.doorFits [] = true) : P.mayEnter = true := by
  unfold Program.mayEnter
  rw [h]
  simp only [strip_of, a1, a2, a3]
  change _ = true
  kernel_rfl
theorem may_enter : Try.checked.prog.mayEnter = true := by
  obtain ⟨r, h⟩ := behind_of
  exact enter_cut _ r h (by kernel_rfl) (by kernel_rfl) (by kernel_rfl)
theorem lifts_final : Try.checked.prog.liftsFinal = false := by
  obtain ⟨r, h⟩ := behind_of
  exact lifts_cut _ r h
theorem make_of : Try.checked.prog.make = some .cut := by
  obtain ⟨r, h⟩ := behind_of
  exact make_cut _ r h
end Go.Proofs.Ytapgpjhogdmjbaa
