/-
  The program's choices. Condition: at most 1000 numbers, not more lists than the limit.
-/
import Derived.Test.YtjeeffmpfdhppaaChsJ
import Derived.Laws.EntriesVeiled
namespace Go.Proofs.Ytjeeffmpfdhppaa
open Go.RowKit
set_option maxRecDepth 100000 in
set_option maxHeartbeats 3200000 in
theorem i_choices (n many limit : Nat) (w : World) (hn : n ≤ 1000) (hm : many ≤ 1000) (hlm : limit ≤ 1000000) (hlim : (chL n many [] 1).length ≤ limit) :
    Calls Try.prog 77 #[.int .i64 n, .int .i64 many, .int .i64 limit] w (RetSS w 45 3 (chL n many [] 1)) := by
  obtain ⟨w0, hw0⟩ : ∃ w0 : World, w0 = ((w.alloc (.cells #[.int .i64 n] 3)).alloc (.cells #[.int .i64 many] 3)).alloc (.cells #[.int .i64 limit] 3) := ⟨_, rfl⟩
  have hz : w0.heap.size = w.heap.size + 1 + 1 + 1 := by rw [hw0]; simp
  have X0 : Hid (Ext w w0) := hd (by rw [hw0]; exact ((Ext.new _ _).alloc _).alloc _)
  have b0 : w0.cell? ⟨w.heap.size, 0, none⟩ = some (.int .i64 n) := by rw [hw0]; exact (blkc1 (blk_old (blk_old (blk_new _ rfl)))).1
  have b1 : w0.cell? ⟨w.heap.size + 1, 0, none⟩ = some (.int .i64 many) := by rw [hw0]; exact (blkc1 (blk_old (blk_new _ (by simp)))).1
  have b2 : w0.cell? ⟨w.heap.size + 1 + 1, 0, none⟩ = some (.int .i64 limit) := by rw [hw0]; exact (blkc1 (blk_new _ (by simp))).1
  have HG := hd (i_grow n many limit (w.heap.size + 1 + 1) (w.heap.size + 1) w.heap.size (w.heap.size + 1 + 1 + 1) (w.heap.size + 1 + 1 + 1 + 2) w0 hn hm hlm b2 b1 b0 many [] 1 (.slice none 0 0) (.slice none 0 0) [] [])
  clear b0 b1 b2
  have hge := enters_choices1
  unfold Enters at hge
  generalize chL n many [] 1 = R at *
  go_enter Try.func77, Try.ntmps77
  go_wp2_with fail
  rw [← hw0]
  have hz' : w0.heap.size = w.heap.size + 1 + 1 + 1 := hz
  refine (HG.out ((w0.alloc (.cells #[.slice none 0 0] 22)).alloc (.cells #[growV (w.heap.size + 1 + 1 + 1) (w.heap.size + 1 + 1) (w.heap.size + 1) w.heap.size] 139)) (by simp) (by omega)
    ⟨blk_old (blk_new _ hz), blk_new _ (by rw [World.size_alloc, hz]), own_nil _ _ _ _, Inner.nil _ _ _ _, own_nil _ _ _ _, (fun _ h => by cases h), (Ext.new _ _).alloc _, Nat.le_of_eq hz, by omega, by rw [World.size_alloc, World.size_alloc, hz]; omega⟩ (by simpa using hlim)).mono ?_
  rintro e w3 ⟨rfl, ov, ws, hC, -⟩
  have HC := hd hC
  obtain ⟨c0, -⟩ := blkc1 hC.blk
  have X3 := hd (X0.out.trans hC.ext)
  clear hC hw0 hz hz'
  go_wp2
  go_ret
  refine ⟨ov, rfl, ⟨ws, ?_, fun g hg => (own_blocks HC.out.own g hg).2, ?_⟩, X3.out⟩
  · have h1 := HC.out.own
    have h2 := HC.out.inn.1
    rw [List.nil_append] at h1 h2
    rw [h2] at h1
    exact own_rebase h1 (by omega)
  · have h1 := HC.out.inn
    rw [List.nil_append] at h1
    exact ⟨h1.1, fun i u xs a b => ⟨own_rebase (h1.2.1 i u xs a b).1 (by omega), (h1.2.1 i u xs a b).2⟩, h1.2.2⟩
end Go.Proofs.Ytjeeffmpfdhppaa
