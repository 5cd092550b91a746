/-
  IdentityProof, the program's side: a box with an owned slice of steps. Conditions: formulas up to 80 letters; the program's table of schemes holds the schemes.
-/
import Derived.Test.YtapgpjhogdmjbaaDoorIdn
namespace Go.Proofs.YtapgpjhogdmjbaaDoor
open Go.RowKit
theorem own_boxF {w : World} {lo b s n : Nat} {e T : TypeId} {v : Value} {cs : List Value} {cells : Array Value} {fr : Nat × Nat} (h : Own w lo e s v n cs) (hb : w.heap[b]? = some (.cells cells T fr)) (hT : T ≠ e) : ∀ g, v.ownBlock = some g → g ≠ b := by
  intro g hg e2
  subst e2
  rcases h.2 with ⟨rfl, _⟩ | ⟨g', cap, cur, rfl, _, hg', _⟩
  · cases hg
  · injection hg with hg
    subst hg
    rw [hb] at hg'
    injection hg' with h1
    injection h1 with _ h2 _
    exact hT h2
theorem blk2F {w : World} {b : Nat} {x y : Value} {e : TypeId} (h : w.heap[b]? = some (.cells #[x, y] e)) : (w.cell? ⟨b, 0, none⟩ = some x ∧ w.cell? ⟨b, 1, none⟩ = some y) ∧ w.frozen? ⟨b, 0, none⟩ = false ∧ w.frozen? ⟨b, 1, none⟩ = false := by
  simp [World.cell?, World.frozen?, h]
theorem blk2F0 {w : World} {b : Nat} {x y u : Value} {e : TypeId} (h : w.heap[b]? = some (.cells #[x, y] e)) : (w.setCell ⟨b, 0, none⟩ u).heap[b]? = some (.cells #[u, y] e) := by
  simp [World.setCell, Array.getElem?_modify, h]
theorem blk2F1 {w : World} {b : Nat} {x y u : Value} {e : TypeId} (h : w.heap[b]? = some (.cells #[x, y] e)) : (w.setCell ⟨b, 1, none⟩ u).heap[b]? = some (.cells #[x, u] e) := by
  simp [World.setCell, Array.getElem?_modify, h]
/-- Formulas' nodes stay. -/
def KeepN (w w' : World) : Prop := ∀ (k : Nat) (cs : Array Value), w.heap[k]? = some (.cells cs 66) → w'.heap[k]? = some (.cells cs 66)
theorem RdF.keep {w w' : World} (h : KeepN w w') : ∀ {f : Fm} {v : Value}, RdF 66 w f v → RdF 66 w' f v
  | .leaf c, v, hr => by obtain ⟨b, e, hb⟩ := hr; exact ⟨b, e, h _ _ hb⟩
  | .neg a, v, hr => by obtain ⟨b, va, e, hb, ha⟩ := hr; exact ⟨b, va, e, h _ _ hb, RdF.keep h ha⟩
  | .bin o x y, v, hr => by obtain ⟨b, vx, vy, e, hb, ha, hb2⟩ := hr; exact ⟨b, vx, vy, e, h _ _ hb, RdF.keep h ha, RdF.keep h hb2⟩
def lgF (rs : List Rec) : Bool := !giveF rs
theorem lgF_snoc (rs : List Rec) (r : Rec) : lgF (rs ++ [r]) = (lgF rs || (decide (80 < r.name.size) || decide (rs.length = 80))) := by
  unfold lgF giveF
  rw [List.all_append, List.length_append]
  simp only [List.all_cons, List.all_nil, Bool.and_true, List.length_singleton]
  cases h : rs.all (fun r => decide (r.name.size ≤ 80))
  · simp
  · by_cases h1 : r.name.size ≤ 80
    · have h1' : ¬ 80 < r.name.size := by omega
      by_cases h2 : rs.length ≤ 80
      · by_cases h3 : rs.length = 80
        · simp [h3]
        · have : rs.length + 1 ≤ 80 := by omega
          simp [h1, h1', h2, h3, this]
      · have h3 : ¬ rs.length = 80 := by omega
        have : ¬ rs.length + 1 ≤ 80 := by omega
        simp [h2, this]
    · have h1' : 80 < r.name.size := by omega
      simp [h1, h1']
structure BxF (w : World) (b lo : Nat) (sv : Value) (rs : List Rec) : Prop where
  blk : w.heap[b]? = some (.cells #[sv, .bool (lgF rs)] 49)
  own : OwnF w lo sv rs
theorem BxF.ext {w w' : World} {b lo : Nat} {sv : Value} {rs : List Rec} (h : BxF w b lo sv rs) (he : Ext w w') : BxF w' b lo sv rs := ⟨he.heap h.blk, own_ext h.own he⟩
structure KeepB (w w' : World) (b lo : Nat) : Prop where
  ex : ∀ w0, Ext w0 w → w0.heap.size ≤ lo → w0.heap.size ≤ b → Ext w0 w'
  nodes : KeepN w w'
  ints : ∀ lo5 v xs, b < lo5 → OwnI w lo5 3 v xs → OwnI w' lo5 3 v xs
  size : w.heap.size ≤ w'.heap.size
theorem KeepB.refl (w : World) (b lo : Nat) : KeepB w w b lo := ⟨fun _ h _ _ => h, fun _ _ h => h, fun _ _ _ _ h => h, Nat.le_refl _⟩
theorem KeepB.trans {w w1 w2 : World} {b lo : Nat} (h : KeepB w w1 b lo) (k : KeepB w1 w2 b lo) : KeepB w w2 b lo :=
  ⟨fun w0 a c d => k.ex w0 (h.ex w0 a c d) c d, fun j cs a => k.nodes j cs (h.nodes j cs a), fun lo5 v xs a c => k.ints lo5 v xs a (h.ints lo5 v xs a c), Nat.le_trans h.size k.size⟩
theorem KeepB.of_ext {w w' : World} {b lo : Nat} (hx : Ext w w') : KeepB w w' b lo := ⟨fun _ a _ _ => a.trans hx, fun _ _ h => hx.heap h, fun _ _ _ _ h => own_ext h hx, hx.size⟩
theorem KeepB.set {w : World} {b lo : Nat} {cells : Array Value} {fr : Nat × Nat} (hb : w.heap[b]? = some (.cells cells 49 fr)) (i : Nat) (u : Value) : KeepB w (w.setCell ⟨b, i, none⟩ u) b lo := by
  have hs : w.grownBy (w.setCell ⟨b, i, none⟩ u) (some b) := grown_set (grown_refl _ _) _ _
  refine ⟨fun w0 a c d => ext_appS (v := .slice (some ⟨b, 0, none⟩) 0 0) a hs (fun g e => by cases e; exact d), fun k cs h => ?_, fun lo5 v xs a h => own_grown h hs (fun g e1 e2 => by injection e2 with e2; have := (own_blocks h g e1).1; omega), hs.size⟩
  rw [hs.block k (Array.getElem?_eq_some_iff.1 h).1 (fun e => by
    injection e with e
    rw [e, hb] at h
    injection h with h
    injection h with _ h2 _
    exact absurd h2 (by decide))]
  exact h
theorem KeepB.app {w w1 : World} {b lo : Nat} {v : Value} {rs : List Rec} (ho : OwnF w lo v rs) (hg : w.grownBy w1 v.ownBlock) : KeepB w w1 b lo :=
  ⟨fun _ a c _ => ext_appS a hg (fun g e => Nat.le_trans c (own_blocks ho g e).1), fun k cs h => by
    rw [hg.block k (Array.getElem?_eq_some_iff.1 h).1 (fun e => own_boxF ho h (by decide) k e.symm rfl)]; exact h,
   fun _ _ _ _ a => own_grown a hg (fun _ e1 e2 => own_ne a ho (by decide) e1 e2), hg.size⟩
set_option maxHeartbeats 6400000 in
theorem i_fputR (rs : List Rec) (f : Fm) (v : Value) (b lo : Nat) (sv : Value) (x y z : Int) (w : World) (h : BxF w b lo sv rs) (hf : RdF 66 w f v) (hl : rs.length ≤ 1000000) (hlo : lo ≤ w.heap.size) :
    Calls Tryd.prog 25 #[.pointer (some ⟨b, 0, none⟩), v, .int .i64 x, .int .i64 y, .int .i64 z] w (fun e w' => e = .returned (.int .i64 rs.length) ∧ (∃ sv', BxF w' b lo sv' (rs ++ [⟨strF f, x, y, z⟩])) ∧ KeepB w w' b lo) := by
  obtain ⟨bf, va, vb, rfl, hbf⟩ := hf.head
  obtain ⟨n, hn⟩ : ∃ n, rs.length = n := ⟨_, rfl⟩
  obtain ⟨A, c, rfl⟩ := OwnF.form2 h.own hn
  have hsz := strF_size f
  have HLG := hd (lgF_snoc rs ⟨strF f, x, y, z⟩)
  generalize strF f = s at *
  have HN := hd hn
  have HB := hd h.blk
  have HO := hd h.own
  have HBF := hd hbf
  have hbn : bf ≠ b := fun e => by
    subst e
    have h1 := h.blk
    rw [hbf] at h1
    injection h1 with h1
    injection h1 with _ h2 _
    exact absurd h2 (by decide)
  have hbl : b < w.heap.size := (Array.getElem?_eq_some_iff.1 h.blk).1
  obtain ⟨⟨c0, c1⟩, f0, f1⟩ := blk2F h.blk
  obtain ⟨k0, k1, k2, k3⟩ := blk4F hbf
  rw [hn] at hl ⊢
  dsimp only at HLG
  rw [hn] at HLG
  clear h hf hn hbf hsz
  have TAIL : Hid (∀ (w1 w4 : World) (q : Bool) (A2 : Option Addr) (c2 : Nat), KeepB w w1 b lo → w1.heap[b]? = some (.cells #[.slice A n c, .bool q] 49) → OwnF w1 lo (.slice A n c) rs → q = (lgF rs || (decide (80 < s.size) || decide (n = 80))) →
      w1.grownBy w4 (Value.slice A n c).ownBlock → OwnF w4 lo (.slice A2 (n + 1) c2) (rs ++ [⟨s, x, y, z⟩]) → (∃ sv', BxF (w4.setCell ⟨b, 0, none⟩ (.slice A2 (n + 1) c2)) b lo sv' (rs ++ [⟨s, x, y, z⟩])) ∧ KeepB w (w4.setCell ⟨b, 0, none⟩ (.slice A2 (n + 1) c2)) b lo) := hd fun w1 w4 q A2 c2 hk hb1 ho1 hq hg4 ho4 => by
    have hb4 : w4.heap[b]? = some (.cells #[.slice A n c, .bool q] 49) := by
      rw [hg4.block b (Array.getElem?_eq_some_iff.1 hb1).1 (fun e => own_boxF ho1 hb1 (by decide) b e.symm rfl)]; exact hb1
    have hs : w4.grownBy (w4.setCell ⟨b, 0, none⟩ (.slice A2 (n + 1) c2)) (some b) := grown_set (grown_refl _ _) _ _
    refine ⟨⟨.slice A2 (n + 1) c2, ?_, World.ownsRow.kept ho4 hs (.inr fun e => own_boxF ho4 hb4 (by decide) _ e rfl)⟩, (hk.trans (KeepB.app ho1 hg4)).trans (KeepB.set hb4 0 _)⟩
    rw [HLG.out, ← hq]
    exact blk2F0 hb4
  have HQ1 : Hid (∀ q2 : Bool, decide (80 < s.size) = true → true = (q2 || (decide (80 < s.size) || decide (n = 80)))) := hd fun q2 h => by rw [h]; cases q2 <;> rfl
  have HQ2 : Hid (∀ q2 : Bool, decide (n = 80) = true → true = (q2 || (decide (80 < s.size) || decide (n = 80)))) := hd fun q2 h => by rw [h]; cases q2 <;> simp
  have HQ3 : Hid (∀ q2 : Bool, ¬ 80 < s.size → ¬ n = 80 → q2 = (q2 || (decide (80 < s.size) || decide (n = 80)))) := hd fun q2 h h2 => by rw [decide_eq_false h, decide_eq_false h2]; cases q2 <;> rfl
  generalize lgF rs = lg at *
  by_cases g1 : 80 < s.size
  · have g2 : (80 : Int) < (s.size : Int) := by omega
    have hs : w.grownBy (w.setCell ⟨b, 1, none⟩ (.bool true)) (some b) := grown_set (grown_refl _ _) _ _
    obtain ⟨q, hq⟩ : ∃ q : Bool, true = q := ⟨_, rfl⟩
    have HQ : Hid (q = (lg || (decide (80 < s.size) || decide (n = 80)))) := hd (by rw [← hq]; exact HQ1.out _ (decide_eq_true g1))
    have HK1 : Hid (KeepB w (w.setCell ⟨b, 1, none⟩ (.bool true)) b lo) := hd (KeepB.set HB.out 1 _)
    have HB1 : Hid ((w.setCell ⟨b, 1, none⟩ (.bool true)).heap[b]? = some (.cells #[.slice A n c, .bool q] 49)) := hd (by rw [← hq]; exact blk2F1 HB.out)
    have HO1 : Hid (OwnF (w.setCell ⟨b, 1, none⟩ (.bool true)) lo (.slice A n c) rs) := hd (World.ownsRow.kept HO.out hs (.inr fun e => own_boxF HO.out HB.out (by decide) _ e rfl))
    have hso : b < (w.setCell ⟨b, 1, none⟩ (.bool true)).heap.size := Nat.lt_of_lt_of_le hbl HK1.out.size
    have hlo1 : lo ≤ (w.setCell ⟨b, 1, none⟩ (.bool true)).heap.size := Nat.le_trans hlo HK1.out.size
    obtain ⟨⟨e0, e1⟩, e2, e3⟩ := blk2F HB1.out
    have hbf1 : (w.setCell ⟨b, 1, none⟩ (.bool true)).heap[bf]? = _ := HK1.out.nodes _ _ HBF.out
    obtain ⟨l0, l1, l2, l3⟩ := blk4F hbf1
    clear hq hbf1
    clear hs
    go_enter Tryd.func25, Tryd.ntmps25
    go_wp2_with fail
    generalize w.setCell ⟨b, 1, none⟩ (.bool true) = wo at *
    have HWO := hd hso
    go_region_law (first
      | (refine stepF _ (v := .slice A n c) (src := .slice (some ⟨_, 0, none⟩) 1 1) (base := lo) ⟨s, x, y, z⟩ (own_ext HO1.out (by first | exact Ext.new _ _ | exact (Ext.refl _).drew.alloc _ | exact (Ext.new _ _).drew)) (rd_blk (s := 4) (us := recCells [⟨s, x, y, z⟩]) (blk_new _ (by first | rfl | simp)) rfl rfl (by unfold maxLen; omega)) rfl _ _ rfl (by rfl) (by rfl) (by rw [HN.out]; omega) (by simp; omega) ?_
         intro v4 w4 ho4 hg4
         have hg5 : wo.grownBy w4 (Value.slice A n c).ownBlock := grown_trans (grown_ext (by first | exact Ext.new _ _ | exact (Ext.refl _).drew.alloc _ | exact (Ext.new _ _).drew) _) hg4
         obtain ⟨A2, c2, rfl⟩ := OwnF.form2 ho4 (n := n + 1) (by rw [List.length_append, HN.out]; rfl)
         have hb4 : w4.heap[b]? = some (.cells #[.slice A n c, .bool q] 49) := by
           rw [hg5.block b HWO.out (fun e => own_boxF HO1.out HB1.out (by decide) b e.symm rfl)]; exact HB1.out
         obtain ⟨⟨d0, d1⟩, h0, h1⟩ := blk2F hb4
         have HT := hd (TAIL.out wo w4 q A2 c2 HK1.out HB1.out HO1.out HQ.out hg5 ho4)
         clear hb4))
    all_goals
      go_wp2
      go_ret
      exact ⟨rfl, HT.out.1, HT.out.2⟩
  · have g2 : ¬ (80 : Int) < (s.size : Int) := by omega
    by_cases g3 : n = 80
    · have g4 : ((n : Int) == 80) = true := by simp; omega
      have hs : w.grownBy (w.setCell ⟨b, 1, none⟩ (.bool true)) (some b) := grown_set (grown_refl _ _) _ _
      obtain ⟨q, hq⟩ : ∃ q : Bool, true = q := ⟨_, rfl⟩
      have HQ : Hid (q = (lg || (decide (80 < s.size) || decide (n = 80)))) := hd (by rw [← hq]; exact HQ2.out _ (decide_eq_true g3))
      have HK1 : Hid (KeepB w (w.setCell ⟨b, 1, none⟩ (.bool true)) b lo) := hd (KeepB.set HB.out 1 _)
      have HB1 : Hid ((w.setCell ⟨b, 1, none⟩ (.bool true)).heap[b]? = some (.cells #[.slice A n c, .bool q] 49)) := hd (by rw [← hq]; exact blk2F1 HB.out)
      have HO1 : Hid (OwnF (w.setCell ⟨b, 1, none⟩ (.bool true)) lo (.slice A n c) rs) := hd (World.ownsRow.kept HO.out hs (.inr fun e => own_boxF HO.out HB.out (by decide) _ e rfl))
      have hso : b < (w.setCell ⟨b, 1, none⟩ (.bool true)).heap.size := Nat.lt_of_lt_of_le hbl HK1.out.size
      have hlo1 : lo ≤ (w.setCell ⟨b, 1, none⟩ (.bool true)).heap.size := Nat.le_trans hlo HK1.out.size
      obtain ⟨⟨e0, e1⟩, e2, e3⟩ := blk2F HB1.out
      have hbf1 : (w.setCell ⟨b, 1, none⟩ (.bool true)).heap[bf]? = _ := HK1.out.nodes _ _ HBF.out
      obtain ⟨l0, l1, l2, l3⟩ := blk4F hbf1
      clear hq hbf1
      clear hs g3
      go_enter Tryd.func25, Tryd.ntmps25
      go_wp2_with fail
      generalize w.setCell ⟨b, 1, none⟩ (.bool true) = wo at *
      have HWO := hd hso
      go_region_law (first
        | (refine stepF _ (v := .slice A n c) (src := .slice (some ⟨_, 0, none⟩) 1 1) (base := lo) ⟨s, x, y, z⟩ (own_ext HO1.out (by first | exact Ext.new _ _ | exact (Ext.refl _).drew.alloc _ | exact (Ext.new _ _).drew)) (rd_blk (s := 4) (us := recCells [⟨s, x, y, z⟩]) (blk_new _ (by first | rfl | simp)) rfl rfl (by unfold maxLen; omega)) rfl _ _ rfl (by rfl) (by rfl) (by rw [HN.out]; omega) (by simp; omega) ?_
           intro v4 w4 ho4 hg4
           have hg5 : wo.grownBy w4 (Value.slice A n c).ownBlock := grown_trans (grown_ext (by first | exact Ext.new _ _ | exact (Ext.refl _).drew.alloc _ | exact (Ext.new _ _).drew) _) hg4
           obtain ⟨A2, c2, rfl⟩ := OwnF.form2 ho4 (n := n + 1) (by rw [List.length_append, HN.out]; rfl)
           have hb4 : w4.heap[b]? = some (.cells #[.slice A n c, .bool q] 49) := by
             rw [hg5.block b HWO.out (fun e => own_boxF HO1.out HB1.out (by decide) b e.symm rfl)]; exact HB1.out
           obtain ⟨⟨d0, d1⟩, h0, h1⟩ := blk2F hb4
           have HT := hd (TAIL.out wo w4 q A2 c2 HK1.out HB1.out HO1.out HQ.out hg5 ho4)
           clear hb4))
      all_goals
        go_wp2
        go_ret
        exact ⟨rfl, HT.out.1, HT.out.2⟩
    · have g4 : ((n : Int) == 80) = false := by simp; omega
      obtain ⟨q, hq⟩ : ∃ q : Bool, lg = q := ⟨_, rfl⟩
      have HQ : Hid (q = (lg || (decide (80 < s.size) || decide (n = 80)))) := hd (by rw [← hq]; exact HQ3.out _ g1 g3)
      have HK1 : Hid (KeepB w (w) b lo) := hd (KeepB.refl w b lo)
      have HB1 : Hid ((w).heap[b]? = some (.cells #[.slice A n c, .bool q] 49)) := hd (by rw [← hq]; exact HB.out)
      have HO1 : Hid (OwnF (w) lo (.slice A n c) rs) := hd (HO.out)
      have hso : b < (w).heap.size := Nat.lt_of_lt_of_le hbl HK1.out.size
      have hlo1 : lo ≤ (w).heap.size := Nat.le_trans hlo HK1.out.size
      obtain ⟨⟨e0, e1⟩, e2, e3⟩ := blk2F HB1.out
      have hbf1 : (w).heap[bf]? = _ := HK1.out.nodes _ _ HBF.out
      obtain ⟨l0, l1, l2, l3⟩ := blk4F hbf1
      clear hq hbf1
      go_enter Tryd.func25, Tryd.ntmps25
      go_wp2_with fail
      obtain ⟨wo, rfl⟩ : ∃ wo : World, wo = w := ⟨_, rfl⟩
      have HWO := hd hso
      go_region_law (first
        | (refine stepF _ (v := .slice A n c) (src := .slice (some ⟨_, 0, none⟩) 1 1) (base := lo) ⟨s, x, y, z⟩ (own_ext HO1.out (by first | exact Ext.new _ _ | exact (Ext.refl _).drew.alloc _ | exact (Ext.new _ _).drew)) (rd_blk (s := 4) (us := recCells [⟨s, x, y, z⟩]) (blk_new _ (by first | rfl | simp)) rfl rfl (by unfold maxLen; omega)) rfl _ _ rfl (by rfl) (by rfl) (by rw [HN.out]; omega) (by simp; omega) ?_
           intro v4 w4 ho4 hg4
           have hg5 : wo.grownBy w4 (Value.slice A n c).ownBlock := grown_trans (grown_ext (by first | exact Ext.new _ _ | exact (Ext.refl _).drew.alloc _ | exact (Ext.new _ _).drew) _) hg4
           obtain ⟨A2, c2, rfl⟩ := OwnF.form2 ho4 (n := n + 1) (by rw [List.length_append, HN.out]; rfl)
           have hb4 : w4.heap[b]? = some (.cells #[.slice A n c, .bool q] 49) := by
             rw [hg5.block b HWO.out (fun e => own_boxF HO1.out HB1.out (by decide) b e.symm rfl)]; exact HB1.out
           obtain ⟨⟨d0, d1⟩, h0, h1⟩ := blk2F hb4
           have HT := hd (TAIL.out wo w4 q A2 c2 HK1.out HB1.out HO1.out HQ.out hg5 ho4)
           clear hb4))
      all_goals
        go_wp2
        go_ret
        exact ⟨rfl, HT.out.1, HT.out.2⟩
end Go.Proofs.YtapgpjhogdmjbaaDoor
