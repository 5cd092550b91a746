/-
  EdgeCnf: the program's side: what is called, and the family's add beside other blocks. Conditions: numbers within 1000, at most 2^20 literals, 2^30 clauses.
-/
import Derived.Test.YtgkifandgacncaaEdgS
import Derived.Test.YtgkifandgacncaaFam
import Derived.Test.YtgkifandgacncaaFamC
import Derived.Test.YtgkifandgacncaaHo
namespace Go.Proofs.Ytgkifandgacncaa
open Go.RowKit
/-- Blocks of other types than a slice of slices and a family are kept. -/
def KeepT (w w' : World) : Prop := ∀ (cb : Nat) (cs : Array Value) (T' : TypeId) (fr : Nat × Nat), w.heap[cb]? = some (.cells cs T' fr) → T' ≠ 23 → T' ≠ 52 → w'.heap[cb]? = some (.cells cs T' fr)
theorem KeepT.own {w w' : World} {lo : Nat} {v : Value} {xs : List Int} (h : KeepT w w') (ho : OwnI w lo 3 v xs) : OwnI w' lo 3 v xs := by
  refine ⟨ho.1, ?_⟩
  rcases ho.2 with hn | ⟨g, cap, cur, hv', hb', hg, rest⟩
  · exact .inl hn
  · exact .inr ⟨g, cap, cur, hv', hb', h g cur _ _ hg (by decide) (by decide), rest⟩
theorem KeepT.of_ext {w w' : World} (h : Ext w w') : KeepT w w' := fun _ _ _ _ hc _ _ => h.heap hc
theorem i_pairsOf (m : Nat) (w : World) (hm : 2 ≤ m ∧ m ≤ 3) : Calls Try.prog 40 #[.int .i64 (m : Int)] w (Ret w (.int .i64 (pM m))) := by
  have key : ∀ (n r : Int) (w : World), (n = 2 ∧ r = 1) ∨ (n = 3 ∧ r = 3) → Calls Try.prog 40 #[.int .i64 n] w (Ret w (.int .i64 r)) := by
    intro n r w h
    rcases h with ⟨rfl, rfl⟩ | ⟨rfl, rfl⟩
    all_goals
      go_enter Try.func40, Try.ntmps40
      go_wp2
      go_ret
      exact Ret.mk (by kernel_rfl)
  refine key _ _ w ?_
  rcases two_three hm with rfl | rfl
  · exact .inl ⟨by decide, by decide⟩
  · exact .inr ⟨by decide, by decide⟩
theorem i_pairNumber (n i j r : Int) (w : World) (h : (n, i, j, r) ∈ pairs8) : Calls Try.prog 43 #[.int .i64 n, .int .i64 i, .int .i64 j] w (Ret w (.int .i64 r)) := by
  simp only [pairs8, List.mem_cons, Prod.mk.injEq, List.not_mem_nil, or_false] at h
  rcases h with ⟨rfl, rfl, rfl, rfl⟩ | ⟨rfl, rfl, rfl, rfl⟩ | ⟨rfl, rfl, rfl, rfl⟩ | ⟨rfl, rfl, rfl, rfl⟩ | ⟨rfl, rfl, rfl, rfl⟩ | ⟨rfl, rfl, rfl, rfl⟩ | ⟨rfl, rfl, rfl, rfl⟩ | ⟨rfl, rfl, rfl, rfl⟩
  all_goals
    go_enter Try.func43, Try.ntmps43
    go_wp2
    go_ret
    exact Ret.mk (by kernel_rfl)
theorem enters_EdgeCnf1 : Enters 41 := fun args w => by kernel_rfl
theorem i_EdgeCnf1 (f : Int) (nb m : Nat) (w : World) (h : w.cell? ⟨nb, 0, none⟩ = some (.int .i64 (m : Int))) (hm : 2 ≤ m ∧ m ≤ 3) (hf : 0 ≤ f ∧ f ≤ 20) :
    Calls Try.prog 41 #[.int .i64 f, .pointer (some ⟨nb, 0, none⟩)] w (RetI w 3 (seqI (f + 1) m)) := by
  have HC : Hid (∀ w', Ext w w' → w'.cell? ⟨nb, 0, none⟩ = some (.int .i64 (m : Int))) := hd fun w' hx => hx.cell h
  have HSQ : Hid (∀ k : Nat, seqI (f + 1) (k + 1) = seqI (f + 1) k ++ [f + ((k : Int) + 1)]) := hd fun k => by rw [seqI_snoc]; congr 2; omega
  clear h
  go_enter Try.func41, Try.ntmps41
  go_wp2
  go_loopw [4, 5] (fun ov vv wr => ∃ k : Nat, k ≤ m ∧ vv = .int .i64 ((k : Int) + 1) ∧ OwnI wr w.heap.size 3 ov (seqI (f + 1) k) ∧ Ext w wr) (fun _ vv _ => m + 1 - (intOf vv).toNat)
  case atStart => exact ⟨0, by omega, by go_num, ownI_nil _ _ _, Ext.refl _⟩
  case round =>
    obtain ⟨k, hk, rfl, ho, hx⟩ := hrel
    have HO := hd ho
    have HX := hd hx
    have hc := HC.out wr hx
    clear ho hx
    by_cases hlt : k < m
    · have hk1 : (k : Int) + 1 ≤ (m : Int) := by omega
      have HSK := hd (HSQ.out k)
      go_wp2_with (at_builtin; refine appI wr HO.out rfl _ _ rfl _ (by rfl) (by rfl) (by simp; omega) HX.out.size ?_; intro v' w9 ho1 hg1 _)
      go_roundw
      case rel => exact ⟨k + 1, by omega, by go_num, by rw [HSK.out]; exact ho1, ext_app HX.out hg1 (ownI_ge HO.out)⟩
      case measure => simp [intOf]; omega
    · have hk1 : ¬ ((k : Int) + 1 ≤ (m : Int)) := by omega
      obtain rfl : k = m := by omega
      go_wp2
      go_ret
      exact ⟨_, rfl, HO.out, HX.out⟩
set_option maxRecDepth 100000 in
set_option maxHeartbeats 3200000 in
theorem i_addK (w0 w : World) (bx : Nat) (n : Int) (lo : Nat) (ov : Value) (xss : List (List Int)) (xs ys : List Int) (v : Value) (hF : FamB w0 w bx 52 n lo ov xss) (h : RdI w v xs) (hl : xs.length ≤ 1048576) (hn : xss.length ≤ 1048576) (hp : Hid (ys.Perm xs)) (hs : Hid (ys.Pairwise fun a b => absI a < absI b)) (hb : Hid (∀ x ∈ ys, -1000 ≤ x ∧ x ≤ 1000)) :
    Calls Try.prog 42 #[.pointer (some ⟨bx, 0, none⟩), v] w (fun e w' => e = .returned (.tuple #[]) ∧ ∃ ov', FamB w0 w' bx 52 n lo ov' (xss ++ [ys]) ∧ KeepT w w') := by
  have HF := hd hF
  have HR := hd h
  have HBK := hd hF.blk
  obtain ⟨c0, c1⟩ := blk2 hF.blk
  obtain ⟨f0, f1⟩ := blk2f hF.blk
  have hbl := blk_lt hF.blk
  have HMC : Hid (∀ w', Ext w w' → Calls Try.prog 58 #[v] w' (RetI w' 3 ys)) := hd fun w' hx => i_mustClause xs ys v w' (h.ext hx) hl hp hs hb
  have HNE : Hid (∀ (cb : Nat) (cs : Array Value) (T' : TypeId) (fr : Nat × Nat), w.heap[cb]? = some (.cells cs T' fr) → T' ≠ 23 → ∀ g, ov.ownBlock = some g → some cb = some g → False) := hd (by
    obtain ⟨vs, a1, _, _⟩ := hF.own
    exact fun cb cs T' fr hC hT => own_box a1 hC hT)
  clear hF h
  obtain ⟨wo, rfl⟩ : ∃ wo : World, wo = w := ⟨_, rfl⟩
  go_enter Try.func42, Try.ntmps42
  go_wp2_with fail
  have hx0 := HF.out.ext
  go_region_law (first
    | (go_simp; go_at_call 58; refine (HMC.out _ (by first | exact Ext.refl _ | exact (Ext.refl _).drew | exact ext_drewN _ _)).mono ?_; rintro e w1 ⟨u, rfl, hu, hx1⟩
       have X1 : Ext wo w1 := Ext.trans (by first | exact Ext.refl _ | exact (Ext.refl _).drew | exact ext_drewN _ _) hx1
       have X2 : Ext w0 w1 := hx0.trans X1
       have d0 := X1.cell c0
       have d1 := X1.cell c1
       have d2 := Nat.lt_of_lt_of_le hbl X1.size
       obtain ⟨A4, c4, rfl, -⟩ := hu.rd.form
       have hu' : OwnI w1 wo.heap.size 3 (.slice A4 ys.length c4) ys := own_rebase hu (by simp))
    | (refine stepL _ (v := ov) (src := .slice (some ⟨_, 0, none⟩) 1 1) (lo := lo) (hi := wo.heap.size) ((HF.out.own.ext X1).ext (Ext.new _ _)) (own_ext hu' (Ext.new _ _)) HF.out.low (Nat.le_trans X1.size (by simp)) (rd_oneV _ _ _) rfl (.tmp 8) (.tmp 11) rfl (by rfl) (by rfl) (by omega) ?_
       intro v' w2 ho2 hg2
       obtain ⟨A5, c5, rfl, h51, h52⟩ := OwnSS.form ho2
       rw [show (xss ++ [ys]).length = xss.length + 1 from by simp] at ho2
       have hB2 := HF.out.blk1 (by decide) (X1.alloc _) hg2
       obtain ⟨q0, q1⟩ := blk2 hB2
       obtain ⟨q2, q3⟩ := blk2f hB2
       have q4 := blk_lt hB2
       have HP := HF.out.put (by decide) (by decide) (X1.alloc _) ho2 hg2
       have X9 := HP.ext
       have X8 : Ext w0 w2 := ext_appS (hx0.trans (X1.alloc _)) hg2 HF.out.own_low
       have HX1 := hd X1
       have HG2 := hd hg2))
  all_goals
    go_wp2
    go_end0
    refine ⟨rfl, _, HP, ?_⟩
    intro cb cs T' fr hC h1 h2
    have hcb1 := (HX1.out.alloc (.cells #[.slice A4 ys.length c4] 23)).heap hC
    have hcb2 := (HG2.out.block cb (blk_lt hcb1) (fun e => HNE.out cb cs T' fr hC h1 cb e.symm rfl)).trans hcb1
    exact blk_other hcb2 (fun e => h2 (by
      have e2 : bx = cb := e
      rw [← e2, HBK.out] at hC
      injection hC with hC
      injection hC with _ hT _
      exact hT.symm))
/-- The family with the three rows beside it. -/
def EdI (W1 w : World) (bx : Nat) (V P : Int) (m : Nat) (vf vs vc : Value) (L : List (List Int)) : Prop :=
  ∃ ov, FamB W1 w bx 52 V bx ov L ∧ OwnI w W1.heap.size 3 vf (seqI (P + 1) m) ∧ OwnI w W1.heap.size 3 vs (seqI (P + (m : Int) + 1) m) ∧ OwnI w W1.heap.size 3 vc (seqI (P + 2 * (m : Int) + 1) m)
section
variable {W1 w w' : World} {bx m : Nat} {V P : Int} {vf vs vc : Value} {L : List (List Int)}
theorem EdI.on (h : EdI W1 w bx V P m vf vs vc L) (hx : Ext w w') : EdI W1 w' bx V P m vf vs vc L := by
  obtain ⟨ov, h1, h2, h3, h4⟩ := h
  exact ⟨ov, h1.on hx, h2.ext hx, h3.ext hx, h4.ext hx⟩
theorem EdI.ext (h : EdI W1 w bx V P m vf vs vc L) : Ext W1 w := by
  obtain ⟨ov, h1, -⟩ := h
  exact h1.ext
theorem seq_cell {a : Addr} {c k n : Nat} {x : Int} {lo : Nat} (h : OwnI w lo 3 (.slice (some a) n c) (seqI x n)) (hk : k < n) : w.cell? (a.add k) = some (.int .i64 (x + (k : Int))) := by
  have h1 : RdI w (.slice (some a) (seqI x n).length c) (seqI x n) := by rw [length_seqI]; exact h.rd
  obtain ⟨a', e, hc⟩ := RdI.at_ (hd h1) (k := k) (by rw [length_seqI]; exact hk)
  injection e with e
  subst e
  rw [getElem_seqI] at hc
  exact hc
theorem EdI.at_ {a1 a2 a3 : Addr} {c1 c2 c3 k : Nat} (h : EdI W1 w bx V P m (.slice (some a1) m c1) (.slice (some a2) m c2) (.slice (some a3) m c3) L) (hk : k < m) :
    w.cell? (a1.add k) = some (.int .i64 (P + 1 + (k : Int))) ∧ w.cell? (a2.add k) = some (.int .i64 (P + (m : Int) + 1 + (k : Int))) ∧ w.cell? (a3.add k) = some (.int .i64 (P + 2 * (m : Int) + 1 + (k : Int))) := by
  obtain ⟨ov, -, h2, h3, h4⟩ := h
  exact ⟨seq_cell h2 hk, seq_cell h3 hk, seq_cell h4 hk⟩
theorem e_add (xs ys : List Int) (v : Value) (h : EdI W1 w bx V P m vf vs vc L) (hr : RdI w v xs) (hl : xs.length ≤ 1048576) (hn : L.length ≤ 1048576) (hp : Hid (ys.Perm xs)) (hs : Hid (ys.Pairwise fun a b => absI a < absI b)) (hb : Hid (∀ x ∈ ys, -1000 ≤ x ∧ x ≤ 1000)) :
    Calls Try.prog 42 #[.pointer (some ⟨bx, 0, none⟩), v] w (fun e w' => e = .returned (.tuple #[]) ∧ EdI W1 w' bx V P m vf vs vc (L ++ [ys])) := by
  obtain ⟨ov, h1, h2, h3, h4⟩ := h
  refine (i_addK W1 w bx V bx ov L xs ys v h1 hr hl hn hp hs hb).mono ?_
  rintro e w' ⟨rfl, ov', hF, hK⟩
  exact ⟨rfl, ov', hF, hK.own h2, hK.own h3, hK.own h4⟩
end
end Go.Proofs.Ytgkifandgacncaa
