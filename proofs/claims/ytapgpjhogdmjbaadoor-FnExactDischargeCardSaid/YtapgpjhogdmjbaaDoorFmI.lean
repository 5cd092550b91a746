/-
  Chapter 22, the program: the parse of a text into a tree. Condition: sizes up to 2^20.
-/
import Derived.Test.YtapgpjhogdmjbaaDoorFmW
import Derived.Deep.RegionLaw
import Derived.Lib.Strings
import Derived.Lib.Slices
import Derived.Lib.Walk
import Derived.Lib.Bytealg
namespace Go.Proofs.YtapgpjhogdmjbaaDoor
open Go.RowKit
theorem utf8_ascii (c : UInt8) (h : c.toNat < 128) : Utf8.encode (c.toNat : Int) = ⟨#[c]⟩ := by
  have key : ∀ n : Nat, n < 128 → Utf8.encode (n : Int) = ⟨#[UInt8.ofNat n]⟩ := by decide
  have := key c.toNat h
  rw [this]; simp
set_option maxRecDepth 100000 in
set_option maxHeartbeats 1000000 in
theorem c_stringslite_IndexByte (s : ByteArray) (c : Int) (w : World) : Calls Tryd.prog 63 #[.string s, .int .u8 c] w (Ret w (.int .i64 (Lib.indexByte s.data.toList c.toNat.toUInt8))) := by
  go_enter Tryd.func63, Tryd.ntmps63
  go_wp2
  rw [run_callFunc_extern Tryd.func67 (by kernel_rfl) (by kernel_rfl) (by kernel_rfl) (e := Extern.BytealgIndexByte.indexByte) (by kernel_rfl), Lib.run_indexByteString]
  simp only [Result.andThen]
  rw [Oper.upon_value]
  go_wp2
  go_ret
  exact Ret.mk rfl
set_option maxHeartbeats 2000000 in
set_option maxRecDepth 100000 in
theorem c_stringslite_Index (s : ByteArray) (c : UInt8) (w : World) : Calls Tryd.prog 60 #[.string s, .string ⟨#[c]⟩] w (Ret w (.int .i64 (Lib.indexByte s.data.toList c))) := by
  go_enter Tryd.func60, Tryd.ntmps60
  go_wp2_with (go_at_call 63; refine (c_stringslite_IndexByte _ _ _).mono ?_; rintro e w' ⟨rfl, rfl⟩)
  · have h : ([c] == s.toList) = true := by assumption
    go_ret
    refine Ret.mk ?_
    have e : s.data.toList = [c] := by rw [← Lib.toList_data]; exact (beq_iff_eq.1 h).symm
    rw [e]
    simp [Lib.indexByte]
  · go_ret
    exact Ret.mk rfl
theorem c_strings_Index (s : ByteArray) (c : UInt8) (w : World) : Calls Tryd.prog 57 #[.string s, .string ⟨#[c]⟩] w (Ret w (.int .i64 (Lib.indexByte s.data.toList c))) := by
  go_enter Tryd.func57, Tryd.ntmps57
  go_wp2_with fail
  refine (c_stringslite_Index _ _ _).mono ?_
  rintro e w1 ⟨rfl, rfl⟩
  go_wp2
  go_ret
  exact Ret.mk rfl
theorem c_strings_Contains (s : ByteArray) (c : UInt8) (w : World) : Calls Tryd.prog 51 #[.string s, .string ⟨#[c]⟩] w (Ret w (.bool (decide (0 ≤ Lib.indexByte s.data.toList c)))) := by
  go_enter Tryd.func51, Tryd.ntmps51
  go_wp2_with fail
  refine (c_strings_Index _ _ _).mono ?_
  rintro e w1 ⟨rfl, rfl⟩
  go_wp2
  go_ret
  exact Ret.mk rfl
theorem isOp_contains (c : UInt8) : decide (0 ≤ Lib.indexByte [38, 124, 62] c) = isOp c := by
  rcases op_cases c with ⟨ho, h | h | h⟩ | ⟨ho, h1, h2, h3⟩
  · rw [ho, u8_eq h]; decide
  · rw [ho, u8_eq h]; decide
  · rw [ho, u8_eq h]; decide
  · have e1 : ((38 : UInt8) == c) = false := by rw [beq_eq_false_iff_ne]; rintro rfl; exact h1 rfl
    have e2 : ((124 : UInt8) == c) = false := by rw [beq_eq_false_iff_ne]; rintro rfl; exact h2 rfl
    have e3 : ((62 : UInt8) == c) = false := by rw [beq_eq_false_iff_ne]; rintro rfl; exact h3 rfl
    rw [ho]
    simp [Lib.indexByte, e1, e2, e3]
def letB (c : UInt8) : Bool := decide (97 ≤ c.toNat) && decide (c.toNat ≤ 102)
theorem i_isLetter (c : UInt8) (w : World) : Calls Tryd.prog 48 #[.int .u8 c.toNat] w (Ret w (.bool (letB c))) := by
  by_cases h1 : 97 ≤ c.toNat
  · by_cases h2 : c.toNat ≤ 102
    · have HL : Hid (letB c = true) := hd (by unfold letB; simp [h1, h2])
      have g1 : (97 : Int) ≤ (c.toNat : Int) := by omega
      have g2 : (c.toNat : Int) < 103 := by omega
      go_enter Tryd.func48, Tryd.ntmps48
      go_wp2
      go_ret
      exact Ret.mk (by rw [HL.out]; rfl)
    · have HL : Hid (letB c = false) := hd (by unfold letB; simp [h1, h2])
      have g1 : (97 : Int) ≤ (c.toNat : Int) := by omega
      have g2 : ¬ (c.toNat : Int) < 103 := by omega
      go_enter Tryd.func48, Tryd.ntmps48
      go_wp2
      go_ret
      exact Ret.mk (by rw [HL.out]; rfl)
  · have HL : Hid (letB c = false) := hd (by unfold letB; simp [h1])
    have g1 : ¬ (97 : Int) ≤ (c.toNat : Int) := by omega
    go_enter Tryd.func48, Tryd.ntmps48
    go_wp2
    go_ret
    exact Ret.mk (by rw [HL.out]; rfl)
/-- A call returns a pointer to a tree, and leaves all old memory alone. -/
def RetF (w : World) (f : Fm) : Ending → World → Prop := fun e w' => ∃ v, e = .returned v ∧ RdF 66 w' f v ∧ Ext w w'
theorem i_leaf (c : UInt8) (h : c.toNat < 128) (w : World) : Calls Tryd.prog 49 #[.int .u8 c.toNat] w (RetF w (.leaf c)) := by
  have HU := hd (utf8_ascii c h)
  go_enter Tryd.func49, Tryd.ntmps49
  go_wp2
  rw [HU.out]
  go_ret
  exact ⟨_, rfl, ⟨_, rfl, heap_alloc_new w _⟩, Ext.new _ _⟩
theorem i_not (f : Fm) (v : Value) (w : World) (h : RdF 66 w f v) (hl : (txt f).length ≤ 1048576) : Calls Tryd.prog 50 #[v] w (RetF w (.neg f)) := by
  have H := hd h
  obtain ⟨b, vx, vy, rfl, hb⟩ := h.head
  clear h
  obtain ⟨k0, k1, k2, k3⟩ := blk4F hb
  have HS : Hid ((⟨#[126]⟩ : ByteArray) ++ strF f = strF (.neg f)) := hd (strF_neg f)
  have hsz : (strF f).size ≤ 1048576 := by rw [strF_size]; exact hl
  go_enter Tryd.func50, Tryd.ntmps50
  go_wp2
  rw [HS.out]
  go_ret
  exact ⟨_, rfl, ⟨_, _, rfl, heap_alloc_new w _, H.out.ext (Ext.new _ _)⟩, Ext.new _ _⟩
set_option maxRecDepth 100000 in
set_option maxHeartbeats 1600000 in
theorem i_join (o : UInt8) (ho : isOp o = true) (x y : Fm) (v u : Value) (w : World) (h : RdF 66 w x v) (h' : RdF 66 w y u) (hl : (txt x).length ≤ 1048576) (hl' : (txt y).length ≤ 1048576) : Calls Tryd.prog 28 #[.int .u8 o.toNat, v, u] w (RetF w (.bin o x y)) := by
  have H := hd h
  have H' := hd h'
  obtain ⟨b, vx, vy, rfl, hb⟩ := h.head
  obtain ⟨b', vx', vy', rfl, hb'⟩ := h'.head
  clear h h'
  obtain ⟨k0, k1, k2, k3⟩ := blk4F hb
  obtain ⟨l0, l1, l2, l3⟩ := blk4F hb'
  have HS := hd (strF_bin o x y)
  have hsz : (strF x).size ≤ 1048576 := by rw [strF_size]; exact hl
  have hsz' : (strF y).size ≤ 1048576 := by rw [strF_size]; exact hl'
  have ho3 : o.toNat < 128 := by
    rcases op_cases o with ⟨_, h | h | h⟩ | ⟨h, _⟩
    · omega
    · omega
    · omega
    · rw [ho] at h; cases h
  have HU := hd (utf8_ascii o ho3)
  have hU := HU.out
  have q1 : ¬ 9223372036854775807 < 1 + (strF x).size := by omega
  have q2 : ¬ 9223372036854775807 < 1 + (strF x).size + 1 := by omega
  have q3 : ¬ 9223372036854775807 < 1 + (strF x).size + 1 + (strF y).size := by omega
  have q4 : ¬ 9223372036854775807 < 1 + (strF x).size + 1 + (strF y).size + 1 := by omega
  go_enter Tryd.func28, Tryd.ntmps28
  go_wp2_with fail
  go_region_law (fail)
  all_goals
    go_wp2
    rw [HS.out]
    go_ret
    exact ⟨_, rfl, ⟨_, _, _, rfl, heap_alloc_new _ _, H.out.ext (((Ext.refl w).drew).alloc _), H'.out.ext (((Ext.refl w).drew).alloc _)⟩, ((Ext.refl w).drew).alloc _⟩
end Go.Proofs.YtapgpjhogdmjbaaDoor
