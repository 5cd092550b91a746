/-
  Chapter 22, the reference: the sign and the parts of a formula. Condition: sizes up to 2^20.
-/
import Derived.Test.YtapgpjhogdmjbaaDoorFmS
import Derived.IntWalk
namespace Go.Proofs.YtapgpjhogdmjbaaDoor
open Go.RowKit
def kidA : Fm → ByteArray
  | .leaf _ => .empty
  | .neg a => strF a
  | .bin _ a _ => strF a
def kidB : Fm → ByteArray
  | .leaf _ => .empty
  | .neg _ => .empty
  | .bin _ _ b => strF b
set_option maxRecDepth 100000 in
set_option maxHeartbeats 1600000 in
theorem s_l22Parts (f : Fm) (hw : WfF f = true) (hl : (txt f).length ≤ 1048576) (w : World) : Calls Tryd.prog 62 #[.string (strF f)] w (RetQ w (.tuple #[.int .u8 (opF f).toNat, .string (kidA f), .string (kidB f)])) := by
  have hz : (strF f).data.toList = txt f := strF_list f
  have hsz : (strF f).size = (txt f).length := strF_size f
  cases f with
  | leaf c =>
    have hc : isLf c = true := hw
    have h0 : 0 < (strF (.leaf c)).size := by rw [hsz]; simp [txt]
    have hg : (strF (.leaf c))[0] = c := get_of_list (l := []) (r := []) (by rw [hz]; rfl) h0
    have hn : c.toNat ≠ 126 ∧ c.toNat ≠ 40 := by
      rcases byte_cases c with ⟨_, h | h | h⟩ | h | h | h
      · omega
      · omega
      · omega
      · rw [u8_eq h] at hc; exact absurd hc (by decide)
      · rw [u8_eq h] at hc; exact absurd hc (by decide)
      · omega
    generalize strF (.leaf c) = s at *
    have hgn : s[0].toNat = c.toNat := by rw [hg]
    have g1 : ((c.toNat : Int) == 126) = false := by simp; omega
    have g2 : ((c.toNat : Int) == 40) = false := by simp; omega
    have g3 : ((c.toNat : Int) != 40) = true := by simp; omega
    clear hz hc hw hn hg
    go_enter Tryd.func62, Tryd.ntmps62
    go_wp2
    go_ret3
    exact RetQ.mk rfl
  | neg a =>
    have h0 : 0 < (strF (.neg a)).size := by rw [hsz]; simp [txt]
    have hg : (strF (.neg a))[0] = 126 := get_of_list (l := []) (r := txt a) (by rw [hz]; rfl) h0
    have HX : Hid ((strF (.neg a)).extract 1 (strF (.neg a)).size = strF a) := hd (strF_of (by rw [extract_list, hz, hsz, List.take_of_length_le (Nat.le_refl _)]; rfl))
    generalize strF (.neg a) = s at *
    have hgn : s[0].toNat = 126 := by rw [hg]; rfl
    clear hz hw hg
    have h1 : (1 : Int) ≤ (s.size : Int) := by omega
    have HA : Hid (s.extract 1 s.size = strF a) := HX
    have hx1 := HA.out
    clear hsz hl
    go_enter Tryd.func62, Tryd.ntmps62
    go_wp2_with fail
    go_quiet (fail)
    go_wp2
    go_ret3
    exact RetQ.mkN rfl
  | bin o a b =>
    have hw' : isOp o = true ∧ WfF a = true ∧ WfF b = true := by
      have hw : (isOp o && (WfF a && WfF b)) = true := hw
      simpa [Bool.and_eq_true] using hw
    have h0 : 0 < (strF (.bin o a b)).size := by rw [hsz]; simp [txt]
    have hg : (strF (.bin o a b))[0] = 40 := get_of_list (l := []) (r := txt a ++ o :: (txt b ++ [41])) (by rw [hz]; rfl) h0
    have hL : (txt (.bin o a b)).length = (txt a).length + (txt b).length + 3 := by simp [txt]; omega
    have hm : (txt a).length + 1 < (strF (.bin o a b)).size := by rw [hsz, hL]; omega
    have hgm : (strF (.bin o a b))[(txt a).length + 1] = o := get_of_list (l := 40 :: txt a) (r := txt b ++ [41]) (by rw [hz]; simp [txt]) hm
    have HM : Hid (endV (strF (.bin o a b)).data.toList 1 = (((txt a).length + 1 : Nat) : Int)) := hd (by
      rw [endV_some (f := a) (r := o :: (txt b ++ [41])) (by rw [hz]; exact pL_iff.2 ⟨rfl, hw'.2.1⟩), hz, hL]; simp; omega)
    have HX1 : Hid ((strF (.bin o a b)).extract 1 ((txt a).length + 1) = strF a) := hd (strF_of (by rw [extract_list, hz]; simp [txt]))
    have HX2 : Hid ((strF (.bin o a b)).extract ((txt a).length + 1 + 1) ((strF (.bin o a b)).size - 1) = strF b) := hd (strF_of (by
      rw [extract_list, hz, hsz, hL]
      show List.drop _ (List.take _ (40 :: (txt a ++ o :: (txt b ++ [41])))) = _
      rw [show (txt a).length + (txt b).length + 3 - 1 = ((txt a).length + ((txt b).length + 1)) + 1 from by omega, List.take_succ_cons, List.drop_succ_cons, List.take_length_add_append, List.take_succ_cons, List.drop_length_add_append (i := 1)]
      simp))
    have hs : (strF (.bin o a b)).size ≤ 1048576 := by rw [hsz]; exact hl
    have HEnd := hd (fun (w : World) => s_l22End (strF (.bin o a b)) hs (strF (.bin o a b)).size 1 (by omega) (by omega) w)
    have hsl : (txt a).length + 2 ≤ (strF (.bin o a b)).size - 1 := by rw [hsz, hL]; omega
    generalize strF (.bin o a b) = s at *
    have hgn : s[0].toNat = 40 := by rw [hg]; rfl
    have HG : Hid (s[(txt a).length + 1].toNat = o.toNat) := hd (by rw [hgm])
    generalize (txt a).length = m at *
    clear hz hw hg hgm hw' hL hsz hl
    have hx1 := HX1.out
    have hx2 := HX2.out
    have hgo := HG.out
    have n1 : (1 : Int) ≤ (m : Int) + 1 := by omega
    have n2 : (m : Int) + 1 ≤ (s.size : Int) := by omega
    have n3 : (m : Int) + 1 + 1 ≤ (s.size : Int) - 1 := by omega
    have n4 : (0 : Int) ≤ (m : Int) + 1 := by omega
    have n5 : (m : Int) + 1 < (s.size : Int) := by omega
    have n6 : IntKind.i64.wrap ((m : Int) + 1 + 1) = (m : Int) + 1 + 1 := IntWalk.i64_in _ (by omega)
    have n7 : IntKind.i64.wrap ((s.size : Int) - 1) = (s.size : Int) - 1 := IntWalk.i64_in _ (by omega)
    clear hs
    go_enter Tryd.func62, Tryd.ntmps62
    go_wp2_with fail
    refine (rv (HEnd.out _) (hd (congrArg (Value.int .i64) HM.out))).mono ?_
    rintro e w1 ⟨rfl, rfl⟩
    go_wp2_with fail
    go_quiet (fail)
    go_wp2
    go_ret3
    exact RetQ.mkN (by show Value.tuple #[.int .u8 o.toNat, .string (strF a), .string (s.extract (m + 1 + 1) (s.size - 1))] = .tuple #[.int .u8 o.toNat, .string (strF a), .string (strF b)]; rw [HX2.out])
end Go.Proofs.YtapgpjhogdmjbaaDoor
