/-
  Discharge, the program's side: what a put leaves alone. Conditions: as IdentityProof's.
-/
import Derived.Test.YtapgpjhogdmjbaaDoorIdnJ
namespace Go.Proofs.YtapgpjhogdmjbaaDoor
open Go.RowKit
/-- All blocks stay but the box and the steps' own; the steps' block is the old one or newer than the call. -/
def KeepK (w w' : World) (b : Nat) (sv sv' : Value) : Prop := (∀ k o, w.heap[k]? = some o → k ≠ b → (∀ g, sv.ownBlock = some g → g ≠ k) → w'.heap[k]? = some o) ∧ (∀ g, sv'.ownBlock = some g → sv.ownBlock = some g ∨ w.heap.size ≤ g)
section
variable {ops : Array Oper} {rest : List Oper} {o : Oper} {a : Act} {Q : Exit → Act → World → Prop}
theorem stepF3 {K : Act → World → Prop} {E : Prop} (w : World) {v src : Value} {rs : List Rec} {base : Nat} (r : Rec) (hown : OwnF w base v rs) (hsrc : Rd w 4 src 1 (recCells [r])) (hgd : o.guard = none) (s x : Operand)
    (ho : o.op = .call { callee := .builtin .append, args := #[s, x], argTypes := #[26, 26] })
    (hs : a.eval s = v) (hx : a.eval x = src) (hn : rs.length + 1 ≤ 536870912) (hbase : base ≤ w.heap.size)
    (h : ∀ v' w', OwnF w' base v' (rs ++ [r]) → w.grownBy w' v.ownBlock → (v'.ownBlock = v.ownBlock ∨ v'.ownBlock = some w.heap.size) → K (a.put o.dst v') w') :
    if Region.wanted o (yielded ops a.tmps) = true then Oper.wp Tryd.prog o a w K Q else E := by
  have hw : Region.wanted o (yielded ops a.tmps) = true := by simp [Region.wanted, hgd]
  rw [if_pos hw]
  exact wp_app w s x 26 ho base 42 Tryd.underlying26 info_fstep (by decide) rfl (by decide) hown hsrc (recCells_oneF _) hs hx (by omega) hbase fun v' w' h1 h2 h3 =>
    h v' w' (by unfold OwnF; rw [recCells_appendF, List.length_append]; exact h1) h2 h3
end
set_option maxHeartbeats 6400000 in
theorem i_fputK (rs : List Rec) (f : Fm) (v : Value) (b lo : Nat) (sv : Value) (x y z : Int) (w : World) (h : BxF w b lo sv rs) (hf : RdF 66 w f v) (hl : rs.length ≤ 1000000) (hlo : lo ≤ w.heap.size) :
    Calls Tryd.prog 25 #[.pointer (some ⟨b, 0, none⟩), v, .int .i64 x, .int .i64 y, .int .i64 z] w (fun e w' => e = .returned (.int .i64 rs.length) ∧ (∃ sv', BxF w' b lo sv' (rs ++ [⟨strF f, x, y, z⟩]) ∧ KeepK w w' b sv sv') ∧ KeepB w w' b lo) := by
  obtain ⟨bf, va, vb, rfl, hbf⟩ := hf.head
  obtain ⟨n, hn⟩ : ∃ n, rs.length = n := ⟨_, rfl⟩
  obtain ⟨A, c, rfl⟩ := OwnF.form2 h.own hn
  have hsz := strF_size f
  have HLG := hd (lgF_snoc rs ⟨strF f, x, y, z⟩)
  generalize strF f = s at *
  have HN := hd hn
  have HB := hd h.blk
  have HO := hd h.own
  have HBF := hd hbf
  have hbn : bf ≠ b := fun e => by
    subst e
    have h1 := h.blk
    rw [hbf] at h1
    injection h1 with h1
    injection h1 with _ h2 _
    exact absurd h2 (by decide)
  have hbl : b < w.heap.size := (Array.getElem?_eq_some_iff.1 h.blk).1
  obtain ⟨⟨c0, c1⟩, f0, f1⟩ := blk2F h.blk
  obtain ⟨k0, k1, k2, k3⟩ := blk4F hbf
  rw [hn] at hl ⊢
  dsimp only at HLG
  rw [hn] at HLG
  clear h hf hn hbf hsz
  have TAIL : Hid (∀ (w1 w4 : World) (q : Bool) (A2 : Option Addr) (c2 : Nat), KeepB w w1 b lo → w1.heap[b]? = some (.cells #[.slice A n c, .bool q] 49) → OwnF w1 lo (.slice A n c) rs → q = (lgF rs || (decide (80 < s.size) || decide (n = 80))) →
      w1.grownBy w4 (Value.slice A n c).ownBlock → OwnF w4 lo (.slice A2 (n + 1) c2) (rs ++ [⟨s, x, y, z⟩]) → (∀ k o, w.heap[k]? = some o → k ≠ b → w1.heap[k]? = some o) → (∀ g, (Value.slice A2 (n + 1) c2).ownBlock = some g → (Value.slice A n c).ownBlock = some g ∨ w.heap.size ≤ g) →
      (∃ sv', BxF (w4.setCell ⟨b, 0, none⟩ (.slice A2 (n + 1) c2)) b lo sv' (rs ++ [⟨s, x, y, z⟩]) ∧ KeepK w (w4.setCell ⟨b, 0, none⟩ (.slice A2 (n + 1) c2)) b (.slice A n c) sv') ∧ KeepB w (w4.setCell ⟨b, 0, none⟩ (.slice A2 (n + 1) c2)) b lo) := hd fun w1 w4 q A2 c2 hk hb1 ho1 hq hg4 ho4 hkk hh => by
    have hb4 : w4.heap[b]? = some (.cells #[.slice A n c, .bool q] 49) := by
      rw [hg4.block b (Array.getElem?_eq_some_iff.1 hb1).1 (fun e => own_boxF ho1 hb1 (by decide) b e.symm rfl)]; exact hb1
    have hs : w4.grownBy (w4.setCell ⟨b, 0, none⟩ (.slice A2 (n + 1) c2)) (some b) := grown_set (grown_refl _ _) _ _
    refine ⟨⟨.slice A2 (n + 1) c2, ⟨?_, World.ownsRow.kept ho4 hs (.inr fun e => own_boxF ho4 hb4 (by decide) _ e rfl)⟩, ⟨fun k o hko hkb hkg => ?_, hh⟩⟩, (hk.trans (KeepB.app ho1 hg4)).trans (KeepB.set hb4 0 _)⟩
    · rw [HLG.out, ← hq]
      exact blk2F0 hb4
    · have e1 := hkk k o hko hkb
      have e4 : w4.heap[k]? = some o := by rw [hg4.block k (Array.getElem?_eq_some_iff.1 e1).1 (fun e => hkg k e.symm rfl)]; exact e1
      rw [hs.block k (Array.getElem?_eq_some_iff.1 e4).1 (fun e => hkb (by injection e))]; exact e4
  have HQ1 : Hid (∀ q2 : Bool, decide (80 < s.size) = true → true = (q2 || (decide (80 < s.size) || decide (n = 80)))) := hd fun q2 h => by rw [h]; cases q2 <;> rfl
  have HQ2 : Hid (∀ q2 : Bool, decide (n = 80) = true → true = (q2 || (decide (80 < s.size) || decide (n = 80)))) := hd fun q2 h => by rw [h]; cases q2 <;> simp
  have HQ3 : Hid (∀ q2 : Bool, ¬ 80 < s.size → ¬ n = 80 → q2 = (q2 || (decide (80 < s.size) || decide (n = 80)))) := hd fun q2 h h2 => by rw [decide_eq_false h, decide_eq_false h2]; cases q2 <;> rfl
  generalize lgF rs = lg at *
  by_cases g1 : 80 < s.size
  · have g2 : (80 : Int) < (s.size : Int) := by omega
    have hs : w.grownBy (w.setCell ⟨b, 1, none⟩ (.bool true)) (some b) := grown_set (grown_refl _ _) _ _
    obtain ⟨q, hq⟩ : ∃ q : Bool, true = q := ⟨_, rfl⟩
    have HQ : Hid (q = (lg || (decide (80 < s.size) || decide (n = 80)))) := hd (by rw [← hq]; exact HQ1.out _ (decide_eq_true g1))
    have HKK : Hid (∀ k o, w.heap[k]? = some o → k ≠ b → (w.setCell ⟨b, 1, none⟩ (.bool true)).heap[k]? = some o) := hd fun k o hk hkb => by rw [hs.block k (Array.getElem?_eq_some_iff.1 hk).1 (fun e => hkb (by injection e))]; exact hk
    have HK1 : Hid (KeepB w (w.setCell ⟨b, 1, none⟩ (.bool true)) b lo) := hd (KeepB.set HB.out 1 _)
    have HB1 : Hid ((w.setCell ⟨b, 1, none⟩ (.bool true)).heap[b]? = some (.cells #[.slice A n c, .bool q] 49)) := hd (by rw [← hq]; exact blk2F1 HB.out)
    have HO1 : Hid (OwnF (w.setCell ⟨b, 1, none⟩ (.bool true)) lo (.slice A n c) rs) := hd (World.ownsRow.kept HO.out hs (.inr fun e => own_boxF HO.out HB.out (by decide) _ e rfl))
    have hso : b < (w.setCell ⟨b, 1, none⟩ (.bool true)).heap.size := Nat.lt_of_lt_of_le hbl HK1.out.size
    have hlo1 : lo ≤ (w.setCell ⟨b, 1, none⟩ (.bool true)).heap.size := Nat.le_trans hlo HK1.out.size
    obtain ⟨⟨e0, e1⟩, e2, e3⟩ := blk2F HB1.out
    have hbf1 : (w.setCell ⟨b, 1, none⟩ (.bool true)).heap[bf]? = _ := HK1.out.nodes _ _ HBF.out
    obtain ⟨l0, l1, l2, l3⟩ := blk4F hbf1
    clear hq hbf1
    clear hs
    go_enter Tryd.func25, Tryd.ntmps25
    go_wp2_with fail
    generalize w.setCell ⟨b, 1, none⟩ (.bool true) = wo at *
    have HWO := hd hso
    go_region_law (first
      | (refine stepF3 _ (v := .slice A n c) (src := .slice (some ⟨_, 0, none⟩) 1 1) (base := lo) ⟨s, x, y, z⟩ (own_ext HO1.out (by first | exact Ext.new _ _ | exact (Ext.refl _).drew.alloc _ | exact (Ext.new _ _).drew)) (rd_blk (s := 4) (us := recCells [⟨s, x, y, z⟩]) (blk_new _ (by first | rfl | simp)) rfl rfl (by unfold maxLen; omega)) rfl _ _ rfl (by rfl) (by rfl) (by rw [HN.out]; omega) (by simp; omega) ?_
         intro v4 w4 ho4 hg4 hb3
         have hg5 : wo.grownBy w4 (Value.slice A n c).ownBlock := grown_trans (grown_ext (by first | exact Ext.new _ _ | exact (Ext.refl _).drew.alloc _ | exact (Ext.new _ _).drew) _) hg4
         obtain ⟨A2, c2, rfl⟩ := OwnF.form2 ho4 (n := n + 1) (by rw [List.length_append, HN.out]; rfl)
         have hb4 : w4.heap[b]? = some (.cells #[.slice A n c, .bool q] 49) := by
           rw [hg5.block b HWO.out (fun e => own_boxF HO1.out HB1.out (by decide) b e.symm rfl)]; exact HB1.out
         obtain ⟨⟨d0, d1⟩, h0, h1⟩ := blk2F hb4
         have hh : ∀ g, (Value.slice A2 (n + 1) c2).ownBlock = some g → (Value.slice A n c).ownBlock = some g ∨ w.heap.size ≤ g := fun g hg => by
           rcases hb3 with h | h
           · exact .inl (by rw [← h]; exact hg)
           · rw [h] at hg; injection hg with hg; right; have := HK1.out.size; simp at hg; omega
         have HT := hd (TAIL.out wo w4 q A2 c2 HK1.out HB1.out HO1.out HQ.out hg5 ho4 HKK.out hh)
         clear hb4))
    all_goals
      go_wp2
      go_ret
      exact ⟨rfl, HT.out.1, HT.out.2⟩
  · have g2 : ¬ (80 : Int) < (s.size : Int) := by omega
    by_cases g3 : n = 80
    · have g4 : ((n : Int) == 80) = true := by simp; omega
      have hs : w.grownBy (w.setCell ⟨b, 1, none⟩ (.bool true)) (some b) := grown_set (grown_refl _ _) _ _
      obtain ⟨q, hq⟩ : ∃ q : Bool, true = q := ⟨_, rfl⟩
      have HQ : Hid (q = (lg || (decide (80 < s.size) || decide (n = 80)))) := hd (by rw [← hq]; exact HQ2.out _ (decide_eq_true g3))
      have HKK : Hid (∀ k o, w.heap[k]? = some o → k ≠ b → (w.setCell ⟨b, 1, none⟩ (.bool true)).heap[k]? = some o) := hd fun k o hk hkb => by rw [hs.block k (Array.getElem?_eq_some_iff.1 hk).1 (fun e => hkb (by injection e))]; exact hk
      have HK1 : Hid (KeepB w (w.setCell ⟨b, 1, none⟩ (.bool true)) b lo) := hd (KeepB.set HB.out 1 _)
      have HB1 : Hid ((w.setCell ⟨b, 1, none⟩ (.bool true)).heap[b]? = some (.cells #[.slice A n c, .bool q] 49)) := hd (by rw [← hq]; exact blk2F1 HB.out)
      have HO1 : Hid (OwnF (w.setCell ⟨b, 1, none⟩ (.bool true)) lo (.slice A n c) rs) := hd (World.ownsRow.kept HO.out hs (.inr fun e => own_boxF HO.out HB.out (by decide) _ e rfl))
      have hso : b < (w.setCell ⟨b, 1, none⟩ (.bool true)).heap.size := Nat.lt_of_lt_of_le hbl HK1.out.size
      have hlo1 : lo ≤ (w.setCell ⟨b, 1, none⟩ (.bool true)).heap.size := Nat.le_trans hlo HK1.out.size
      obtain ⟨⟨e0, e1⟩, e2, e3⟩ := blk2F HB1.out
      have hbf1 : (w.setCell ⟨b, 1, none⟩ (.bool true)).heap[bf]? = _ := HK1.out.nodes _ _ HBF.out
      obtain ⟨l0, l1, l2, l3⟩ := blk4F hbf1
      clear hq hbf1
      clear hs g3
      go_enter Tryd.func25, Tryd.ntmps25
      go_wp2_with fail
      generalize w.setCell ⟨b, 1, none⟩ (.bool true) = wo at *
      have HWO := hd hso
      go_region_law (first
        | (refine stepF3 _ (v := .slice A n c) (src := .slice (some ⟨_, 0, none⟩) 1 1) (base := lo) ⟨s, x, y, z⟩ (own_ext HO1.out (by first | exact Ext.new _ _ | exact (Ext.refl _).drew.alloc _ | exact (Ext.new _ _).drew)) (rd_blk (s := 4) (us := recCells [⟨s, x, y, z⟩]) (blk_new _ (by first | rfl | simp)) rfl rfl (by unfold maxLen; omega)) rfl _ _ rfl (by rfl) (by rfl) (by rw [HN.out]; omega) (by simp; omega) ?_
           intro v4 w4 ho4 hg4 hb3
           have hg5 : wo.grownBy w4 (Value.slice A n c).ownBlock := grown_trans (grown_ext (by first | exact Ext.new _ _ | exact (Ext.refl _).drew.alloc _ | exact (Ext.new _ _).drew) _) hg4
           obtain ⟨A2, c2, rfl⟩ := OwnF.form2 ho4 (n := n + 1) (by rw [List.length_append, HN.out]; rfl)
           have hb4 : w4.heap[b]? = some (.cells #[.slice A n c, .bool q] 49) := by
             rw [hg5.block b HWO.out (fun e => own_boxF HO1.out HB1.out (by decide) b e.symm rfl)]; exact HB1.out
           obtain ⟨⟨d0, d1⟩, h0, h1⟩ := blk2F hb4
           have hh : ∀ g, (Value.slice A2 (n + 1) c2).ownBlock = some g → (Value.slice A n c).ownBlock = some g ∨ w.heap.size ≤ g := fun g hg => by
             rcases hb3 with h | h
             · exact .inl (by rw [← h]; exact hg)
             · rw [h] at hg; injection hg with hg; right; have := HK1.out.size; simp at hg; omega
           have HT := hd (TAIL.out wo w4 q A2 c2 HK1.out HB1.out HO1.out HQ.out hg5 ho4 HKK.out hh)
           clear hb4))
      all_goals
        go_wp2
        go_ret
        exact ⟨rfl, HT.out.1, HT.out.2⟩
    · have g4 : ((n : Int) == 80) = false := by simp; omega
      obtain ⟨q, hq⟩ : ∃ q : Bool, lg = q := ⟨_, rfl⟩
      have HQ : Hid (q = (lg || (decide (80 < s.size) || decide (n = 80)))) := hd (by rw [← hq]; exact HQ3.out _ g1 g3)
      have HKK : Hid (∀ k o, w.heap[k]? = some o → k ≠ b → (w).heap[k]? = some o) := hd fun k o hk hkb => hk
      have HK1 : Hid (KeepB w (w) b lo) := hd (KeepB.refl w b lo)
      have HB1 : Hid ((w).heap[b]? = some (.cells #[.slice A n c, .bool q] 49)) := hd (by rw [← hq]; exact HB.out)
      have HO1 : Hid (OwnF (w) lo (.slice A n c) rs) := hd (HO.out)
      have hso : b < (w).heap.size := Nat.lt_of_lt_of_le hbl HK1.out.size
      have hlo1 : lo ≤ (w).heap.size := Nat.le_trans hlo HK1.out.size
      obtain ⟨⟨e0, e1⟩, e2, e3⟩ := blk2F HB1.out
      have hbf1 : (w).heap[bf]? = _ := HK1.out.nodes _ _ HBF.out
      obtain ⟨l0, l1, l2, l3⟩ := blk4F hbf1
      clear hq hbf1
      go_enter Tryd.func25, Tryd.ntmps25
      go_wp2_with fail
      obtain ⟨wo, rfl⟩ : ∃ wo : World, wo = w := ⟨_, rfl⟩
      have HWO := hd hso
      go_region_law (first
        | (refine stepF3 _ (v := .slice A n c) (src := .slice (some ⟨_, 0, none⟩) 1 1) (base := lo) ⟨s, x, y, z⟩ (own_ext HO1.out (by first | exact Ext.new _ _ | exact (Ext.refl _).drew.alloc _ | exact (Ext.new _ _).drew)) (rd_blk (s := 4) (us := recCells [⟨s, x, y, z⟩]) (blk_new _ (by first | rfl | simp)) rfl rfl (by unfold maxLen; omega)) rfl _ _ rfl (by rfl) (by rfl) (by rw [HN.out]; omega) (by simp; omega) ?_
           intro v4 w4 ho4 hg4 hb3
           have hg5 : wo.grownBy w4 (Value.slice A n c).ownBlock := grown_trans (grown_ext (by first | exact Ext.new _ _ | exact (Ext.refl _).drew.alloc _ | exact (Ext.new _ _).drew) _) hg4
           obtain ⟨A2, c2, rfl⟩ := OwnF.form2 ho4 (n := n + 1) (by rw [List.length_append, HN.out]; rfl)
           have hb4 : w4.heap[b]? = some (.cells #[.slice A n c, .bool q] 49) := by
             rw [hg5.block b HWO.out (fun e => own_boxF HO1.out HB1.out (by decide) b e.symm rfl)]; exact HB1.out
           obtain ⟨⟨d0, d1⟩, h0, h1⟩ := blk2F hb4
           have hh : ∀ g, (Value.slice A2 (n + 1) c2).ownBlock = some g → (Value.slice A n c).ownBlock = some g ∨ wo.heap.size ≤ g := fun g hg => by
             rcases hb3 with h | h
             · exact .inl (by rw [← h]; exact hg)
             · rw [h] at hg; injection hg with hg; right; have := HK1.out.size; simp at hg; omega
           have HT := hd (TAIL.out wo w4 q A2 c2 HK1.out HB1.out HO1.out HQ.out hg5 ho4 HKK.out hh)
           clear hb4))
      all_goals
        go_wp2
        go_ret
        exact ⟨rfl, HT.out.1, HT.out.2⟩
theorem i_modusK (rs : List Rec) (f : Fm) (v : Value) (b lo : Nat) (sv : Value) (y z : Int) (w : World) (h : BxF w b lo sv rs) (hf : RdF 66 w f v) (hl : rs.length ≤ 1000000) (hlo : lo ≤ w.heap.size) :
    Calls Tryd.prog 27 #[.pointer (some ⟨b, 0, none⟩), v, .int .i64 y, .int .i64 z] w (fun e w' => e = .returned (.int .i64 rs.length) ∧ (∃ sv', BxF w' b lo sv' (rs ++ [⟨strF f, -1, y, z⟩]) ∧ KeepK w w' b sv sv') ∧ KeepB w w' b lo) := by
  have HP := hd (i_fputK rs f v b lo sv (-1) y z w h hf hl hlo)
  clear h hf
  go_enter Tryd.func27, Tryd.ntmps27
  go_wp2_with fail
  refine HP.out.mono ?_
  rintro e w1 ⟨rfl, h1, h2⟩
  have H1 := hd h1
  have H2 := hd h2
  clear h1 h2
  go_wp2
  go_ret
  exact ⟨rfl, H1.out, H2.out⟩
end Go.Proofs.YtapgpjhogdmjbaaDoor
