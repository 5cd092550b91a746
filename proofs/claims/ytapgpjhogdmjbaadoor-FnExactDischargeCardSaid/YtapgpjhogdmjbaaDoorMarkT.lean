/-
  The text of a mark. No condition but the number's size.
-/
import Derived.Test.YtapgpjhogdmjbaaDoorLaw
import Derived.IntWalk
import Derived.BigQuiet
namespace Go.Proofs.YtapgpjhogdmjbaaDoor
open Go.RowKit
section
variable {P : Program} {f : FuncId} {args : Array Value} {w : World} {v v' : Value}
theorem rvz (h : Calls P f args w (RetX w v)) (e : Hid (v = v')) : Calls P f args w (RetX w v') := by have := e.out; subst this; exact h
end
def digB (k : Nat) : ByteArray := ⟨#[UInt8.ofNat (48 + k % 10)]⟩
def markG (k : Nat) (acc : ByteArray) : ByteArray := if h : k = 0 then acc else markG (k / 10) (digB k ++ acc)
termination_by k
decreasing_by omega
def markT (k : Int) : ByteArray := if k ≤ 0 then ⟨#[109, 48]⟩ else ⟨#[109]⟩ ++ markG k.toNat .empty
theorem markG_size (k : Nat) : ∀ acc : ByteArray, (markG k acc).size ≤ acc.size + k := by
  induction k using Nat.strongRecOn with
  | ind k ih =>
    intro acc
    unfold markG
    by_cases h : k = 0
    · rw [dif_pos h]; omega
    · rw [dif_neg h]
      have h1 := ih (k / 10) (by omega) (digB k ++ acc)
      have h2 : (digB k ++ acc).size = acc.size + 1 := by rw [ByteArray.size_append]; show 1 + acc.size = _; omega
      omega
set_option maxRecDepth 100000 in
set_option maxHeartbeats 800000 in
theorem l_markText (n : Int) (w : World) (hn : n ≤ 2000000000) : Calls Tryd.prog 31 #[.int .i64 n] w (RetX w (.string (markT n))) := by
  by_cases h0 : n ≤ 0
  · go_enter Tryd.func31, Tryd.ntmps31
    go_wp2
    go_ret
    exact RetX.mk (by unfold markT; rw [if_pos h0]; rfl) (Ext.refl _)
  · obtain ⟨m, rfl⟩ : ∃ m : Nat, n = m := ⟨n.toNat, by omega⟩
    have HM : Hid (markT (m : Int) = ⟨#[109]⟩ ++ markG m .empty) := hd (by unfold markT; rw [if_neg h0, Int.toNat_natCast])
    have HS := hd (markG_size m .empty)
    go_enter Tryd.func31, Tryd.ntmps31
    go_wp2
    go_loopw [0, 3] (fun i acc wr => ∃ (k : Nat) (s : ByteArray), k ≤ m ∧ i = .int .i64 k ∧ acc = .string s ∧ s.size + k ≤ m ∧ Hid (markG m .empty = markG k s) ∧ Ext w wr) (fun i _ _ => (intOf i).toNat)
    case atStart => exact ⟨m, .empty, by omega, rfl, rfl, by simp, hd rfl, Ext.refl _⟩
    case round =>
      obtain ⟨k, s, hk, rfl, rfl, hs, HR, hx⟩ := hrel
      have HX := hd hx
      clear hx
      by_cases hz : 0 < k
      · have e1 : (0 : Int) < (k : Int) := by omega
        have er : Int.tmod (k : Int) 10 = ((k % 10 : Nat) : Int) := rfl
        have eq : Int.tdiv (k : Int) 10 = ((k / 10 : Nat) : Int) := rfl
        have hw1 : IntKind.i64.wrap ((k % 10 : Nat) : Int) = ((k % 10 : Nat) : Int) := IntWalk.i64_in _ (by omega)
        have hw2 : IntKind.i64.wrap (48 + ((k % 10 : Nat) : Int)) = 48 + ((k % 10 : Nat) : Int) := IntWalk.i64_in _ (by omega)
        have hcv : (convert 70 9 (.slice (some ⟨wr.heap.size, 0, none⟩) 1 1)).run Tryd.prog (wr.alloc (.cells #[.int .u8 (48 + (k : Int) % 10)] 5)) = .ok (.string (digB k)) (wr.alloc (.cells #[.int .u8 (48 + (k : Int) % 10)] 5)) := by
          refine run_convert_bytes_back _ 70 9 5 _ 1 [UInt8.ofNat (48 + k % 10)] Tryd.underlying70 Tryd.underlying5 Tryd.underlying9 ?_
          intro j hj
          obtain rfl : j = 0 := by simpa using hj
          simp [go_sem]
          omega
        have hds : (digB k).size = 1 := rfl
        have hsz : (digB k).size + s.size ≤ 2000000000 := by omega
        have HX2 : Hid (∀ o, Ext w (wr.alloc o)) := hd fun o => HX.out.alloc o
        have hk10 : k / 10 + 1 ≤ k := by omega
        have HRD : Hid (markG m .empty = markG (k / 10) (digB k ++ s)) := hd (by rw [HR.out, markG, dif_neg (by omega)])
        have hsd : (digB k ++ s).size = s.size + 1 := by rw [ByteArray.size_append, hds]; omega
        generalize digB k = d at *
        go_wp2_with fail
        go_roundw
        case rel => exact ⟨k / 10, d ++ s, by omega, by go_num, rfl, by omega, HRD, HX2.out _⟩
        case measure => simp [intOf]; omega
      · obtain rfl : k = 0 := by omega
        have HE : Hid (markG m .empty = s) := hd (by rw [HR.out]; unfold markG; rw [dif_pos rfl])
        go_wp2
        go_ret
        exact RetX.mk (by rw [HM.out, HE.out]; rfl) HX.out
end Go.Proofs.YtapgpjhogdmjbaaDoor
