/-
  The family of clauses: a box of a number and a slice of lists; add. Conditions: numbers within 1000, at most 2^20 literals, 2^30 clauses.
-/
import Derived.Test.YtgkifandgacncaaAppL
import Derived.Test.YtgkifandgacncaaFamB
import Derived.Test.YtgkifandgacncaaMust
import Derived.Test.YtgkifandgacncaaPair
namespace Go.Proofs.Ytgkifandgacncaa
open Go.RowKit
set_option maxRecDepth 100000 in
set_option maxHeartbeats 3200000 in
theorem i_add (w0 w : World) (bx : Nat) (n : Int) (lo : Nat) (ov : Value) (xss : List (List Int)) (xs ys : List Int) (v : Value) (hF : FamB w0 w bx 52 n lo ov xss) (h : RdI w v xs) (hl : xs.length ≤ 1048576) (hn : xss.length ≤ 1048576) (hp : Hid (ys.Perm xs)) (hs : Hid (ys.Pairwise fun a b => absI a < absI b)) (hb : Hid (∀ x ∈ ys, -1000 ≤ x ∧ x ≤ 1000)) :
    Calls Try.prog 42 #[.pointer (some ⟨bx, 0, none⟩), v] w (fun e w' => e = .returned (.tuple #[]) ∧ ∃ ov', FamB w0 w' bx 52 n lo ov' (xss ++ [ys])) := by
  have HF := hd hF
  have HR := hd h
  obtain ⟨c0, c1⟩ := blk2 hF.blk
  obtain ⟨f0, f1⟩ := blk2f hF.blk
  have hbl := blk_lt hF.blk
  have HMC : Hid (∀ w', Ext w w' → Calls Try.prog 58 #[v] w' (RetI w' 3 ys)) := hd fun w' hx => i_mustClause xs ys v w' (h.ext hx) hl hp hs hb
  clear hF h
  obtain ⟨wo, rfl⟩ : ∃ wo : World, wo = w := ⟨_, rfl⟩
  go_enter Try.func42, Try.ntmps42
  go_wp2_with fail
  have hx0 := HF.out.ext
  go_region_law (first
    | (go_simp; go_at_call 58; refine (HMC.out _ (by first | exact Ext.refl _ | exact (Ext.refl _).drew | exact ext_drewN _ _)).mono ?_; rintro e w1 ⟨u, rfl, hu, hx1⟩
       have X1 : Ext wo w1 := Ext.trans (by first | exact Ext.refl _ | exact (Ext.refl _).drew | exact ext_drewN _ _) hx1
       have X2 : Ext w0 w1 := hx0.trans X1
       have d0 := X1.cell c0
       have d1 := X1.cell c1
       have d2 := Nat.lt_of_lt_of_le hbl X1.size
       obtain ⟨A4, c4, rfl, -⟩ := hu.rd.form
       have hu' : OwnI w1 wo.heap.size 3 (.slice A4 ys.length c4) ys := own_rebase hu (by simp))
    | (refine stepL _ (v := ov) (src := .slice (some ⟨_, 0, none⟩) 1 1) (lo := lo) (hi := wo.heap.size) ((HF.out.own.ext X1).ext (Ext.new _ _)) (own_ext hu' (Ext.new _ _)) HF.out.low (Nat.le_trans X1.size (by simp)) (rd_oneV _ _ _) rfl (.tmp 8) (.tmp 11) rfl (by rfl) (by rfl) (by omega) ?_
       intro v' w2 ho2 hg2
       obtain ⟨A5, c5, rfl, h51, h52⟩ := OwnSS.form ho2
       rw [show (xss ++ [ys]).length = xss.length + 1 from by simp] at ho2
       have hB2 := HF.out.blk1 (by decide) (X1.alloc _) hg2
       obtain ⟨q0, q1⟩ := blk2 hB2
       obtain ⟨q2, q3⟩ := blk2f hB2
       have q4 := blk_lt hB2
       have HP := HF.out.put (by decide) (by decide) (X1.alloc _) ho2 hg2
       have X9 := HP.ext
       have X8 : Ext w0 w2 := ext_appS (hx0.trans (X1.alloc _)) hg2 HF.out.own_low))
  all_goals
    go_wp2
    go_end0
    exact ⟨rfl, _, HP⟩
end Go.Proofs.Ytgkifandgacncaa
