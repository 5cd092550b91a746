/-
  Discharge, the program's side: is a formula a case of a scheme? Condition: the program's table of schemes holds the schemes.
-/
import Derived.Test.YtapgpjhogdmjbaaDoorFrgS
import Derived.Test.YtapgpjhogdmjbaaDoorFrgW
namespace Go.Proofs.YtapgpjhogdmjbaaDoor
open Go.RowKit Go.Sort
/-- A cell of the block of formulas that were put for the letters. -/
def CellF (w : World) (t : List UInt8) (c : Value) : Prop := (t = [] ∧ c = .pointer none) ∨ ∃ f, RdF 66 w f c ∧ t = txt f
def StB (w : World) (b : Nat) (st : List (List UInt8)) : Prop := ∃ c0 c1 c2 t0 t1 t2, st = [t0, t1, t2] ∧ w.heap[b]? = some (.cells #[c0, c1, c2] 69) ∧ CellF w t0 c0 ∧ CellF w t1 c1 ∧ CellF w t2 c2
/-- What matching keeps. -/
structure KeepY (w w' : World) (b : Nat) : Prop where
  ex : ∀ w0, Ext w0 w → w0.heap.size ≤ b → Ext w0 w'
  nodes : KeepN w w'
theorem KeepY.of_ext {w w' : World} {b : Nat} (h : Ext w w') : KeepY w w' b := ⟨fun _ a _ => a.trans h, fun _ _ a => h.heap a⟩
theorem KeepY.trans {w w1 w2 : World} {b : Nat} (h : KeepY w w1 b) (k : KeepY w1 w2 b) : KeepY w w2 b := ⟨fun w0 a c => k.ex w0 (h.ex w0 a c) c, fun j cs a => k.nodes j cs (h.nodes j cs a)⟩
theorem KeepY.set {w : World} {b : Nat} {cells : Array Value} {fr : Nat × Nat} (hb : w.heap[b]? = some (.cells cells 69 fr)) (i : Nat) (u : Value) : KeepY w (w.setCell ⟨b, i, none⟩ u) b := by
  have hs : w.grownBy (w.setCell ⟨b, i, none⟩ u) (some b) := grown_set (grown_refl _ _) _ _
  refine ⟨fun w0 a c => ext_appS (v := .slice (some ⟨b, 0, none⟩) 0 0) a hs (fun g e => by cases e; exact c), fun k cs h => ?_⟩
  rw [hs.block k (Array.getElem?_eq_some_iff.1 h).1 (fun e => by
    injection e with e
    rw [e, hb] at h
    injection h with h
    injection h with _ h2 _
    exact absurd h2 (by decide))]
  exact h
theorem CellF.keep {w w' : World} {t : List UInt8} {c : Value} (h : CellF w t c) (k : KeepN w w') : CellF w' t c := by
  rcases h with h | ⟨f, h1, h2⟩
  · exact .inl h
  · exact .inr ⟨f, h1.keep k, h2⟩
theorem StB.ext {w w' : World} {b : Nat} {st : List (List UInt8)} (h : StB w b st) (hx : Ext w w') : StB w' b st := by
  obtain ⟨c0, c1, c2, t0, t1, t2, rfl, hb, h0, h1, h2⟩ := h
  have k : KeepN w w' := fun _ _ a => hx.heap a
  exact ⟨c0, c1, c2, t0, t1, t2, rfl, hx.heap hb, h0.keep k, h1.keep k, h2.keep k⟩
theorem blk3F {w : World} {b : Nat} {x y z : Value} {e : TypeId} (h : w.heap[b]? = some (.cells #[x, y, z] e)) : (w.cell? ⟨b, 0, none⟩ = some x ∧ w.cell? ⟨b, 1, none⟩ = some y ∧ w.cell? ⟨b, 2, none⟩ = some z) ∧ w.frozen? ⟨b, 0, none⟩ = false ∧ w.frozen? ⟨b, 1, none⟩ = false ∧ w.frozen? ⟨b, 2, none⟩ = false := by
  simp [World.cell?, World.frozen?, h]
theorem blk3s0 {w : World} {b : Nat} {x y z u : Value} {e : TypeId} (h : w.heap[b]? = some (.cells #[x, y, z] e)) : (w.setCell ⟨b, 0, none⟩ u).heap[b]? = some (.cells #[u, y, z] e) := by
  simp [World.setCell, Array.getElem?_modify, h]
theorem blk3s1 {w : World} {b : Nat} {x y z u : Value} {e : TypeId} (h : w.heap[b]? = some (.cells #[x, y, z] e)) : (w.setCell ⟨b, 1, none⟩ u).heap[b]? = some (.cells #[x, u, z] e) := by
  simp [World.setCell, Array.getElem?_modify, h]
theorem blk3s2 {w : World} {b : Nat} {x y z u : Value} {e : TypeId} (h : w.heap[b]? = some (.cells #[x, y, z] e)) : (w.setCell ⟨b, 2, none⟩ u).heap[b]? = some (.cells #[x, y, u] e) := by
  simp [World.setCell, Array.getElem?_modify, h]
def FitC (f y : Fm) : Prop := ∀ (st : List (List UInt8)) (vf vy : Value) (b : Nat) (w : World), RdF 66 w f vf → RdF 66 w y vy → StB w b st →
    Calls Tryd.prog 59 #[vf, vy, .pointer (some ⟨b, 0, none⟩)] w (fun e w' => e = .returned (.bool (matF f y st).2) ∧ ((matF f y st).2 = true → StB w' b (matF f y st).1) ∧ KeepY w w' b)
set_option maxRecDepth 100000 in
theorem fit_ne (f y : Fm) (hl : letB (opF f) = false) (hne : (opF f).toNat ≠ (opF y).toNat) (hm : ∀ st, matF f y st = (st, false)) : FitC f y := by
  intro st vf vy b w hf hy hs
  have HM := hd (hm st)
  obtain ⟨bf, fa, fb, rfl, hbf⟩ := hf.head
  obtain ⟨by_, ya, yb, rfl, hby⟩ := hy.head
  obtain ⟨k0, k1, k2, k3⟩ := blk4F hbf
  obtain ⟨l0, l1, l2, l3⟩ := blk4F hby
  have hq : (((opF f).toNat : Int) != ((opF y).toNat : Int)) = true := by simp; omega
  have HL : Hid (∀ w, Calls Tryd.prog 48 #[.int .u8 (opF f).toNat] w (Ret w (.bool false))) := hd fun w => by have := i_isLetter (opF f) w; rw [hl] at this; exact this
  clear hf hy hs hbf hby hl hm hne
  go_enter Tryd.func59, Tryd.ntmps59
  go_wp2_with fail
  refine (HL.out _).mono ?_
  rintro e w1 ⟨rfl, rfl⟩
  go_wp2
  go_region_law (fail)
  all_goals
    go_wp2
    go_ret
    exact ⟨by rw [HM.out]; rfl, (fun e => by rw [HM.out] at e; cases e), KeepY.of_ext (ext_drewN _ _)⟩
set_option maxRecDepth 100000 in
theorem fit_con (c : UInt8) (y : Fm) (hl : letB c = false) (he : c.toNat = (opF y).toNat) (hm : ∀ st, matF (.leaf c) y st = (st, true)) : FitC (.leaf c) y := by
  intro st vf vy b w hf hy hs
  have HM := hd (hm st)
  have HS := hd hs
  obtain ⟨bf, rfl, hbf⟩ := hf
  obtain ⟨by_, ya, yb, rfl, hby⟩ := hy.head
  obtain ⟨k0, k1, k2, k3⟩ := blk4F hbf
  obtain ⟨l0, l1, l2, l3⟩ := blk4F hby
  have hq : ((c.toNat : Int) != ((opF y).toNat : Int)) = false := by simp; omega
  have HL : Hid (∀ w, Calls Tryd.prog 48 #[.int .u8 c.toNat] w (Ret w (.bool false))) := hd fun w => by have := i_isLetter c w; rw [hl] at this; exact this
  clear hy hs hbf hby hl hm he
  go_enter Tryd.func59, Tryd.ntmps59
  go_wp2_with fail
  refine (HL.out _).mono ?_
  rintro e w1 ⟨rfl, rfl⟩
  go_wp2
  go_region_law (fail)
  all_goals
    go_wp2
    go_ret
    exact ⟨by rw [HM.out]; rfl, (fun e => by rw [HM.out]; exact HS.out.ext (ext_drewN _ _)), KeepY.of_ext (ext_drewN _ _)⟩
set_option maxRecDepth 100000 in
set_option maxHeartbeats 1600000 in
theorem fit_let0 (y : Fm) : FitC (.leaf 97) y := by
  intro st vf vy b w hf hy hs
  obtain ⟨c0, c1, c2, t0, t1, t2, rfl, hb, h0, h1, h2⟩ := hs
  have HY := hd hy
  have HF := hd hf
  obtain ⟨bf, rfl, hbf⟩ := hf
  obtain ⟨by_, ya, yb, rfl, hby⟩ := hy.head
  have HBY := hd hby
  obtain ⟨k0, k1, k2, k3⟩ := blk4F hbf
  obtain ⟨l0, l1, l2, l3⟩ := blk4F hby
  obtain ⟨⟨b0, b1, b2⟩, f0, f1, f2⟩ := blk3F hb
  have hM : matF (.leaf 97) y [t0, t1, t2] = if t0 = [] then ([txt y, t1, t2], true) else ([t0, t1, t2], decide (t0 = txt y)) := rfl
  have HB := hd hb
  have HC0 := hd h0
  have HC1 := hd h1
  have HC2 := hd h2
  have HL : Hid (∀ w, Calls Tryd.prog 48 #[.int .u8 97] w (Ret w (.bool true))) := hd (i_isLetter 97)
  have hop : ((UInt8.toNat 97 : Nat) : Int) = 97 := rfl
  rw [hop] at k0
  have hwr : IntKind.u8.wrap 0 = 0 := IntWalk.u8_in _ (by omega)
  rcases h0 with ⟨rfl, rfl⟩ | ⟨g, hg, rfl⟩
  · rw [if_pos rfl] at hM
    have HM := hd hM
    have HK : Hid (KeepY w ((w.drew).setCell ⟨b, 0, none⟩ (.pointer (some ⟨by_, 0, none⟩))) b) := hd ((KeepY.of_ext (Ext.refl w).drew).trans (KeepY.set (w := w.drew) HB.out 0 _))
    have HB2 : Hid (((w.drew).setCell ⟨b, 0, none⟩ (.pointer (some ⟨by_, 0, none⟩))).heap[b]? = some (.cells #[.pointer (some ⟨by_, 0, none⟩), c1, c2] 69)) := hd (blk3s0 (w := w.drew) HB.out)
    obtain ⟨⟨d0, d1, d2⟩, -, -, -⟩ := blk3F HB2.out
    obtain ⟨m0, m1, m2, m3⟩ := blk4F (HK.out.nodes _ _ HBY.out)
    have hqq : ((strF y).toList == (strF y).toList) = true := by simp
    clear hy hbf hby hb h1 h2 hop hM
    generalize strF y = sy at *
    go_enter Tryd.func59, Tryd.ntmps59
    go_wp2_with fail
    refine (HL.out _).mono ?_
    rintro e w1 ⟨rfl, rfl⟩
    go_wp2
    go_region_law (fail)
    all_goals
      go_wp2
      go_region_law (fail)
      all_goals
        go_wp2
        go_ret
        refine ⟨by rw [HM.out]; rfl, (fun e => ?_), HK.out.trans (KeepY.of_ext (Ext.refl _).drew)⟩
        rw [HM.out]
        exact StB.ext ⟨_, _, _, _, _, _, rfl, HB2.out, .inr ⟨y, HY.out.keep HK.out.nodes, rfl⟩, HC1.out.keep HK.out.nodes, HC2.out.keep HK.out.nodes⟩ (Ext.refl _).drew
  · have hne : txt g ≠ [] := by have := txt_pos g; intro e; rw [e] at this; simp at this
    rw [if_neg hne] at hM
    have HM := hd hM
    have HBL : Hid (StB w b [txt g, t1, t2]) := hd ⟨_, _, _, _, _, _, rfl, HB.out, HC0.out, HC1.out, HC2.out⟩
    obtain ⟨bg, ga, gb, rfl, hbg⟩ := hg.head
    obtain ⟨m0, m1, m2, m3⟩ := blk4F hbg
    have HQ : Hid (((strF g).toList == (strF y).toList) = decide (txt g = txt y)) := hd (by rw [Lib.toList_data, Lib.toList_data, strF_list, strF_list, Bool.eq_iff_iff]; simp)
    clear hy hbf hby hb h1 h2 hop hM hg hbg hne
    generalize strF y = sy at *
    generalize strF g = sg at *
    go_enter Tryd.func59, Tryd.ntmps59
    go_wp2_with fail
    refine (HL.out _).mono ?_
    rintro e w1 ⟨rfl, rfl⟩
    go_wp2
    go_region_law (fail)
    all_goals
      go_wp2
      go_region_law (fail)
      all_goals
        go_wp2
        go_ret
        refine ⟨by rw [HM.out, ← HQ.out]; rfl, (fun e => ?_), KeepY.of_ext (Ext.refl _).drew.drew⟩
        rw [HM.out]
        exact HBL.out.ext (Ext.refl _).drew.drew
set_option maxRecDepth 100000 in
set_option maxHeartbeats 1600000 in
theorem fit_let1 (y : Fm) : FitC (.leaf 98) y := by
  intro st vf vy b w hf hy hs
  obtain ⟨c0, c1, c2, t0, t1, t2, rfl, hb, h0, h1, h2⟩ := hs
  have HY := hd hy
  have HF := hd hf
  obtain ⟨bf, rfl, hbf⟩ := hf
  obtain ⟨by_, ya, yb, rfl, hby⟩ := hy.head
  have HBY := hd hby
  obtain ⟨k0, k1, k2, k3⟩ := blk4F hbf
  obtain ⟨l0, l1, l2, l3⟩ := blk4F hby
  obtain ⟨⟨b0, b1, b2⟩, f0, f1, f2⟩ := blk3F hb
  have hM : matF (.leaf 98) y [t0, t1, t2] = if t1 = [] then ([t0, txt y, t2], true) else ([t0, t1, t2], decide (t1 = txt y)) := rfl
  have HB := hd hb
  have HC0 := hd h0
  have HC1 := hd h1
  have HC2 := hd h2
  have HL : Hid (∀ w, Calls Tryd.prog 48 #[.int .u8 98] w (Ret w (.bool true))) := hd (i_isLetter 98)
  have hop : ((UInt8.toNat 98 : Nat) : Int) = 98 := rfl
  rw [hop] at k0
  have hwr : IntKind.u8.wrap 1 = 1 := IntWalk.u8_in _ (by omega)
  rcases h1 with ⟨rfl, rfl⟩ | ⟨g, hg, rfl⟩
  · rw [if_pos rfl] at hM
    have HM := hd hM
    have HK : Hid (KeepY w ((w.drew).setCell ⟨b, 1, none⟩ (.pointer (some ⟨by_, 0, none⟩))) b) := hd ((KeepY.of_ext (Ext.refl w).drew).trans (KeepY.set (w := w.drew) HB.out 1 _))
    have HB2 : Hid (((w.drew).setCell ⟨b, 1, none⟩ (.pointer (some ⟨by_, 0, none⟩))).heap[b]? = some (.cells #[c0, .pointer (some ⟨by_, 0, none⟩), c2] 69)) := hd (blk3s1 (w := w.drew) HB.out)
    obtain ⟨⟨d0, d1, d2⟩, -, -, -⟩ := blk3F HB2.out
    obtain ⟨m0, m1, m2, m3⟩ := blk4F (HK.out.nodes _ _ HBY.out)
    have hqq : ((strF y).toList == (strF y).toList) = true := by simp
    clear hy hbf hby hb h0 h2 hop hM
    generalize strF y = sy at *
    go_enter Tryd.func59, Tryd.ntmps59
    go_wp2_with fail
    refine (HL.out _).mono ?_
    rintro e w1 ⟨rfl, rfl⟩
    go_wp2
    go_region_law (fail)
    all_goals
      go_wp2
      go_region_law (fail)
      all_goals
        go_wp2
        go_ret
        refine ⟨by rw [HM.out]; rfl, (fun e => ?_), HK.out.trans (KeepY.of_ext (Ext.refl _).drew)⟩
        rw [HM.out]
        exact StB.ext ⟨_, _, _, _, _, _, rfl, HB2.out, HC0.out.keep HK.out.nodes, .inr ⟨y, HY.out.keep HK.out.nodes, rfl⟩, HC2.out.keep HK.out.nodes⟩ (Ext.refl _).drew
  · have hne : txt g ≠ [] := by have := txt_pos g; intro e; rw [e] at this; simp at this
    rw [if_neg hne] at hM
    have HM := hd hM
    have HBL : Hid (StB w b [t0, txt g, t2]) := hd ⟨_, _, _, _, _, _, rfl, HB.out, HC0.out, HC1.out, HC2.out⟩
    obtain ⟨bg, ga, gb, rfl, hbg⟩ := hg.head
    obtain ⟨m0, m1, m2, m3⟩ := blk4F hbg
    have HQ : Hid (((strF g).toList == (strF y).toList) = decide (txt g = txt y)) := hd (by rw [Lib.toList_data, Lib.toList_data, strF_list, strF_list, Bool.eq_iff_iff]; simp)
    clear hy hbf hby hb h0 h2 hop hM hg hbg hne
    generalize strF y = sy at *
    generalize strF g = sg at *
    go_enter Tryd.func59, Tryd.ntmps59
    go_wp2_with fail
    refine (HL.out _).mono ?_
    rintro e w1 ⟨rfl, rfl⟩
    go_wp2
    go_region_law (fail)
    all_goals
      go_wp2
      go_region_law (fail)
      all_goals
        go_wp2
        go_ret
        refine ⟨by rw [HM.out, ← HQ.out]; rfl, (fun e => ?_), KeepY.of_ext (Ext.refl _).drew.drew⟩
        rw [HM.out]
        exact HBL.out.ext (Ext.refl _).drew.drew
set_option maxRecDepth 100000 in
set_option maxHeartbeats 1600000 in
theorem fit_let2 (y : Fm) : FitC (.leaf 99) y := by
  intro st vf vy b w hf hy hs
  obtain ⟨c0, c1, c2, t0, t1, t2, rfl, hb, h0, h1, h2⟩ := hs
  have HY := hd hy
  have HF := hd hf
  obtain ⟨bf, rfl, hbf⟩ := hf
  obtain ⟨by_, ya, yb, rfl, hby⟩ := hy.head
  have HBY := hd hby
  obtain ⟨k0, k1, k2, k3⟩ := blk4F hbf
  obtain ⟨l0, l1, l2, l3⟩ := blk4F hby
  obtain ⟨⟨b0, b1, b2⟩, f0, f1, f2⟩ := blk3F hb
  have hM : matF (.leaf 99) y [t0, t1, t2] = if t2 = [] then ([t0, t1, txt y], true) else ([t0, t1, t2], decide (t2 = txt y)) := rfl
  have HB := hd hb
  have HC0 := hd h0
  have HC1 := hd h1
  have HC2 := hd h2
  have HL : Hid (∀ w, Calls Tryd.prog 48 #[.int .u8 99] w (Ret w (.bool true))) := hd (i_isLetter 99)
  have hop : ((UInt8.toNat 99 : Nat) : Int) = 99 := rfl
  rw [hop] at k0
  have hwr : IntKind.u8.wrap 2 = 2 := IntWalk.u8_in _ (by omega)
  rcases h2 with ⟨rfl, rfl⟩ | ⟨g, hg, rfl⟩
  · rw [if_pos rfl] at hM
    have HM := hd hM
    have HK : Hid (KeepY w ((w.drew).setCell ⟨b, 2, none⟩ (.pointer (some ⟨by_, 0, none⟩))) b) := hd ((KeepY.of_ext (Ext.refl w).drew).trans (KeepY.set (w := w.drew) HB.out 2 _))
    have HB2 : Hid (((w.drew).setCell ⟨b, 2, none⟩ (.pointer (some ⟨by_, 0, none⟩))).heap[b]? = some (.cells #[c0, c1, .pointer (some ⟨by_, 0, none⟩)] 69)) := hd (blk3s2 (w := w.drew) HB.out)
    obtain ⟨⟨d0, d1, d2⟩, -, -, -⟩ := blk3F HB2.out
    obtain ⟨m0, m1, m2, m3⟩ := blk4F (HK.out.nodes _ _ HBY.out)
    have hqq : ((strF y).toList == (strF y).toList) = true := by simp
    clear hy hbf hby hb h0 h1 hop hM
    generalize strF y = sy at *
    go_enter Tryd.func59, Tryd.ntmps59
    go_wp2_with fail
    refine (HL.out _).mono ?_
    rintro e w1 ⟨rfl, rfl⟩
    go_wp2
    go_region_law (fail)
    all_goals
      go_wp2
      go_region_law (fail)
      all_goals
        go_wp2
        go_ret
        refine ⟨by rw [HM.out]; rfl, (fun e => ?_), HK.out.trans (KeepY.of_ext (Ext.refl _).drew)⟩
        rw [HM.out]
        exact StB.ext ⟨_, _, _, _, _, _, rfl, HB2.out, HC0.out.keep HK.out.nodes, HC1.out.keep HK.out.nodes, .inr ⟨y, HY.out.keep HK.out.nodes, rfl⟩⟩ (Ext.refl _).drew
  · have hne : txt g ≠ [] := by have := txt_pos g; intro e; rw [e] at this; simp at this
    rw [if_neg hne] at hM
    have HM := hd hM
    have HBL : Hid (StB w b [t0, t1, txt g]) := hd ⟨_, _, _, _, _, _, rfl, HB.out, HC0.out, HC1.out, HC2.out⟩
    obtain ⟨bg, ga, gb, rfl, hbg⟩ := hg.head
    obtain ⟨m0, m1, m2, m3⟩ := blk4F hbg
    have HQ : Hid (((strF g).toList == (strF y).toList) = decide (txt g = txt y)) := hd (by rw [Lib.toList_data, Lib.toList_data, strF_list, strF_list, Bool.eq_iff_iff]; simp)
    clear hy hbf hby hb h0 h1 hop hM hg hbg hne
    generalize strF y = sy at *
    generalize strF g = sg at *
    go_enter Tryd.func59, Tryd.ntmps59
    go_wp2_with fail
    refine (HL.out _).mono ?_
    rintro e w1 ⟨rfl, rfl⟩
    go_wp2
    go_region_law (fail)
    all_goals
      go_wp2
      go_region_law (fail)
      all_goals
        go_wp2
        go_ret
        refine ⟨by rw [HM.out, ← HQ.out]; rfl, (fun e => ?_), KeepY.of_ext (Ext.refl _).drew.drew⟩
        rw [HM.out]
        exact HBL.out.ext (Ext.refl _).drew.drew
theorem letB_126 : letB 126 = false := rfl
set_option maxRecDepth 100000 in
set_option maxHeartbeats 1600000 in
theorem fit_neg (a c : Fm) (HREC : Hid (FitC a c)) : FitC (.neg a) (.neg c) := by
  intro st vf vy b w hf hy hs
  obtain ⟨bf, va, rfl, hbf, ha⟩ := hf
  obtain ⟨by_, vb, rfl, hby, hc⟩ := hy
  obtain ⟨ba, _, _, rfl, _⟩ := ha.head
  obtain ⟨bc, _, _, rfl, _⟩ := hc.head
  have HR := hd (fun (w' : World) (hx : Ext w w') => HREC.out st _ _ b w' (ha.ext hx) (hc.ext hx) (hs.ext hx))
  have HM : Hid (matF (.neg a) (.neg c) st = matF a c st) := hd rfl
  obtain ⟨r, hr⟩ : ∃ r, matF a c st = r := ⟨_, rfl⟩
  rw [hr] at HM HR
  obtain ⟨st2, q⟩ := r
  dsimp only at HR
  have HBF := hd hbf
  have HBY := hd hby
  obtain ⟨k0, k1, k2, k3⟩ := blk4F hbf
  obtain ⟨l0, l1, l2, l3⟩ := blk4F hby
  have HL : Hid (∀ w, Calls Tryd.prog 48 #[.int .u8 126] w (Ret w (.bool false))) := hd (i_isLetter 126)
  clear hbf hby ha hc hs hr HREC
  go_enter Tryd.func59, Tryd.ntmps59
  go_wp2_with fail
  refine (HL.out _).mono ?_
  rintro e w1 ⟨rfl, rfl⟩
  go_wp2_with fail
  refine wp_region_sink (fun w' => (w').cell? ⟨bf, 0, none⟩ = some (.int .u8 126) ∧ (w').cell? ⟨by_, 0, none⟩ = some (.int .u8 126)) 9 10 #[false, false, false, false, false, false, false, false, false, false] (by kernel_rfl) (by kernel_rfl) (by kernel_rfl) ?_
  have HS : (w.drew).cell? ⟨bf, 0, none⟩ = some (.int .u8 126) ∧ (w.drew).cell? ⟨by_, 0, none⟩ = some (.int .u8 126) := ⟨k0, l0⟩
  refine' ordG_take 0 (oi := _) (v := _) ?_ ?_ ?_ (Or.inl ⟨?_, ?_⟩) ?_ ?_
  rotate_left 2
  · (simp only [List.getElem?_toArray, List.getElem?_cons_zero]; rfl)
  · kernel_rfl
  · exact fun _ _ _ h => h
  · rfl
  · (intro w hSw; (try dsimp only at hSw); go_simp; (try with_reducible rfl))
  · exact HS
  (try simp only [Act.put, List.setIfInBounds_toArray, List.set_cons_zero, List.set_cons_succ])
  refine' ordG_take 1 (oi := _) (v := _) ?_ ?_ ?_ (Or.inl ⟨?_, ?_⟩) ?_ ?_
  rotate_left 2
  · (simp only [List.getElem?_toArray, List.getElem?_cons_zero, List.getElem?_cons_succ]; rfl)
  · kernel_rfl
  · exact fun _ _ _ h => h
  · rfl
  · (intro w hSw; (try dsimp only at hSw); go_simp; (try with_reducible rfl))
  · exact HS
  (try simp only [Act.put, List.setIfInBounds_toArray, List.set_cons_zero, List.set_cons_succ])
  refine' ordG_take 2 (oi := _) (v := _) ?_ ?_ ?_ (Or.inl ⟨?_, ?_⟩) ?_ ?_
  rotate_left 2
  · (simp only [List.getElem?_toArray, List.getElem?_cons_zero, List.getElem?_cons_succ]; rfl)
  · kernel_rfl
  · exact fun _ _ _ h => h
  · rfl
  · (intro w hSw; (try dsimp only at hSw); go_simp; (try with_reducible rfl))
  · exact HS
  (try simp only [Act.put, List.setIfInBounds_toArray, List.set_cons_zero, List.set_cons_succ])
  refine' ordG_take 3 (oi := _) (v := _) ?_ ?_ ?_ (Or.inl ⟨?_, ?_⟩) ?_ ?_
  rotate_left 2
  · (simp only [List.getElem?_toArray, List.getElem?_cons_zero, List.getElem?_cons_succ]; rfl)
  · kernel_rfl
  · exact fun _ _ _ h => h
  · rfl
  · (intro w hSw; (try dsimp only at hSw); go_simp; (try with_reducible rfl))
  · exact HS
  (try simp only [Act.put, List.setIfInBounds_toArray, List.set_cons_zero, List.set_cons_succ])
  refine' ordG_take 4 (oi := _) (v := _) ?_ ?_ ?_ (Or.inl ⟨?_, ?_⟩) ?_ ?_
  rotate_left 2
  · (simp only [List.getElem?_toArray, List.getElem?_cons_zero, List.getElem?_cons_succ]; rfl)
  · kernel_rfl
  · exact fun _ _ _ h => h
  · rfl
  · (intro w hSw; (try dsimp only at hSw); go_simp; (try with_reducible rfl))
  · exact HS
  (try simp only [Act.put, List.setIfInBounds_toArray, List.set_cons_zero, List.set_cons_succ])
  refine' ordG_take 5 (oi := _) (v := _) ?_ ?_ ?_ (Or.inl ⟨?_, ?_⟩) ?_ ?_
  rotate_left 2
  · (simp only [List.getElem?_toArray, List.getElem?_cons_zero, List.getElem?_cons_succ]; rfl)
  · kernel_rfl
  · exact fun _ _ _ h => h
  · rfl
  · (intro w hSw; (try dsimp only at hSw); go_simp; (try with_reducible rfl))
  · exact HS
  (try simp only [Act.put, List.setIfInBounds_toArray, List.set_cons_zero, List.set_cons_succ])
  refine' ordG_take 6 (oi := _) (v := _) ?_ ?_ ?_ (Or.inl ⟨?_, ?_⟩) ?_ ?_
  rotate_left 2
  · (simp only [List.getElem?_toArray, List.getElem?_cons_zero, List.getElem?_cons_succ]; rfl)
  · kernel_rfl
  · exact fun _ _ _ h => h
  · rfl
  · (intro w hSw; (try dsimp only at hSw); go_simp; (try with_reducible rfl))
  · exact HS
  (try simp only [Act.put, List.setIfInBounds_toArray, List.set_cons_zero, List.set_cons_succ])
  refine' ordG_take 7 (oi := _) (v := _) ?_ ?_ ?_ (Or.inl ⟨?_, ?_⟩) ?_ ?_
  rotate_left 2
  · (simp only [List.getElem?_toArray, List.getElem?_cons_zero, List.getElem?_cons_succ]; rfl)
  · kernel_rfl
  · exact fun _ _ _ h => h
  · rfl
  · (intro w hSw; (try dsimp only at hSw); go_simp; (try with_reducible rfl))
  · exact HS
  (try simp only [Act.put, List.setIfInBounds_toArray, List.set_cons_zero, List.set_cons_succ])
  refine' ordG_take 8 (oi := _) (v := _) ?_ ?_ ?_ (Or.inl ⟨?_, ?_⟩) ?_ ?_
  rotate_left 2
  · (simp only [List.getElem?_toArray, List.getElem?_cons_zero, List.getElem?_cons_succ]; rfl)
  · kernel_rfl
  · exact fun _ _ _ h => h
  · rfl
  · (intro w hSw; (try dsimp only at hSw); go_simp; (try with_reducible rfl))
  · exact HS
  (try simp only [Act.put, List.setIfInBounds_toArray, List.set_cons_zero, List.set_cons_succ])
  refine ordG_last (by kernel_rfl) (by kernel_rfl) ?_
  refine' wpOp_step (o := _) ?_ (fun K hK => ?_)
  rotate_left 1
  · (simp only [List.getElem?_toArray, List.getElem?_cons_zero, List.getElem?_cons_succ]; rfl)
  go_simp
  refine hK _ _ ?_
  clear hK K HS
  (try simp only [Act.put, List.setIfInBounds_toArray, List.set_cons_zero, List.set_cons_succ])
  go_wp2_with fail
  refine wp_region_sink (fun w' => (w').cell? ⟨bf, 1, none⟩ = some (.pointer (some ⟨ba, 0, none⟩)) ∧ (w').cell? ⟨by_, 1, none⟩ = some (.pointer (some ⟨bc, 0, none⟩))) 10 11 #[false, false, false, false, false, false, false, false, false, false, false] (by kernel_rfl) (by kernel_rfl) (by kernel_rfl) ?_
  have HS : (w.drew.drew).cell? ⟨bf, 1, none⟩ = some (.pointer (some ⟨ba, 0, none⟩)) ∧ (w.drew.drew).cell? ⟨by_, 1, none⟩ = some (.pointer (some ⟨bc, 0, none⟩)) := ⟨k1, l1⟩
  refine' ordG_take 0 (oi := _) (v := _) ?_ ?_ ?_ (Or.inl ⟨?_, ?_⟩) ?_ ?_
  rotate_left 2
  · (simp only [List.getElem?_toArray, List.getElem?_cons_zero]; rfl)
  · kernel_rfl
  · exact fun _ _ _ h => h
  · rfl
  · (intro w hSw; (try dsimp only at hSw); go_simp; (try with_reducible rfl))
  · exact HS
  (try simp only [Act.put, List.setIfInBounds_toArray, List.set_cons_zero, List.set_cons_succ])
  refine' ordG_take 1 (oi := _) (v := _) ?_ ?_ ?_ (Or.inl ⟨?_, ?_⟩) ?_ ?_
  rotate_left 2
  · (simp only [List.getElem?_toArray, List.getElem?_cons_zero, List.getElem?_cons_succ]; rfl)
  · kernel_rfl
  · exact fun _ _ _ h => h
  · rfl
  · (intro w hSw; (try dsimp only at hSw); go_simp; (try with_reducible rfl))
  · exact HS
  (try simp only [Act.put, List.setIfInBounds_toArray, List.set_cons_zero, List.set_cons_succ])
  refine' ordG_take 2 (oi := _) (v := _) ?_ ?_ ?_ (Or.inl ⟨?_, ?_⟩) ?_ ?_
  rotate_left 2
  · (simp only [List.getElem?_toArray, List.getElem?_cons_zero, List.getElem?_cons_succ]; rfl)
  · kernel_rfl
  · exact fun _ _ _ h => h
  · rfl
  · (intro w hSw; (try dsimp only at hSw); go_simp; (try with_reducible rfl))
  · exact HS
  (try simp only [Act.put, List.setIfInBounds_toArray, List.set_cons_zero, List.set_cons_succ])
  refine' ordG_take 3 (oi := _) (v := _) ?_ ?_ ?_ (Or.inl ⟨?_, ?_⟩) ?_ ?_
  rotate_left 2
  · (simp only [List.getElem?_toArray, List.getElem?_cons_zero, List.getElem?_cons_succ]; rfl)
  · kernel_rfl
  · exact fun _ _ _ h => h
  · rfl
  · (intro w hSw; (try dsimp only at hSw); go_simp; (try with_reducible rfl))
  · exact HS
  (try simp only [Act.put, List.setIfInBounds_toArray, List.set_cons_zero, List.set_cons_succ])
  refine' ordG_take 4 (oi := _) (v := _) ?_ ?_ ?_ (Or.inl ⟨?_, ?_⟩) ?_ ?_
  rotate_left 2
  · (simp only [List.getElem?_toArray, List.getElem?_cons_zero, List.getElem?_cons_succ]; rfl)
  · kernel_rfl
  · exact fun _ _ _ h => h
  · rfl
  · (intro w hSw; (try dsimp only at hSw); go_simp; (try with_reducible rfl))
  · exact HS
  (try simp only [Act.put, List.setIfInBounds_toArray, List.set_cons_zero, List.set_cons_succ])
  refine' ordG_take 5 (oi := _) (v := _) ?_ ?_ ?_ (Or.inl ⟨?_, ?_⟩) ?_ ?_
  rotate_left 2
  · (simp only [List.getElem?_toArray, List.getElem?_cons_zero, List.getElem?_cons_succ]; rfl)
  · kernel_rfl
  · exact fun _ _ _ h => h
  · rfl
  · (intro w hSw; (try dsimp only at hSw); go_simp; (try with_reducible rfl))
  · exact HS
  (try simp only [Act.put, List.setIfInBounds_toArray, List.set_cons_zero, List.set_cons_succ])
  refine' ordG_take 6 (oi := _) (v := _) ?_ ?_ ?_ (Or.inl ⟨?_, ?_⟩) ?_ ?_
  rotate_left 2
  · (simp only [List.getElem?_toArray, List.getElem?_cons_zero, List.getElem?_cons_succ]; rfl)
  · kernel_rfl
  · exact fun _ _ _ h => h
  · rfl
  · (intro w hSw; (try dsimp only at hSw); go_simp; (try with_reducible rfl))
  · exact HS
  (try simp only [Act.put, List.setIfInBounds_toArray, List.set_cons_zero, List.set_cons_succ])
  refine' ordG_take 7 (oi := _) (v := _) ?_ ?_ ?_ (Or.inl ⟨?_, ?_⟩) ?_ ?_
  rotate_left 2
  · (simp only [List.getElem?_toArray, List.getElem?_cons_zero, List.getElem?_cons_succ]; rfl)
  · kernel_rfl
  · exact fun _ _ _ h => h
  · rfl
  · (intro w hSw; (try dsimp only at hSw); go_simp; (try with_reducible rfl))
  · exact HS
  (try simp only [Act.put, List.setIfInBounds_toArray, List.set_cons_zero, List.set_cons_succ])
  refine' ordG_take 8 (oi := _) (v := _) ?_ ?_ ?_ (Or.inl ⟨?_, ?_⟩) ?_ ?_
  rotate_left 2
  · (simp only [List.getElem?_toArray, List.getElem?_cons_zero, List.getElem?_cons_succ]; rfl)
  · kernel_rfl
  · exact fun _ _ _ h => h
  · rfl
  · (intro w hSw; (try dsimp only at hSw); go_simp; (try with_reducible rfl))
  · exact HS
  (try simp only [Act.put, List.setIfInBounds_toArray, List.set_cons_zero, List.set_cons_succ])
  refine ordG_all (rs := [9]) (by kernel_rfl) (by simp) (by decide) ?_
  refine' ordG_cons (o := _) ?_ (fun K hK => ?_) ordG_nil
  rotate_left 1
  · (simp only [List.getElem?_toArray, List.getElem?_cons_zero, List.getElem?_cons_succ]; rfl)
  go_simp
  go_at_call 59
  refine (HR.out _ (Ext.refl _).drew.drew).mono ?_
  rintro e w1 ⟨rfl, hs1, hk1⟩
  have HS1 := hd hs1
  have HK1 := hd hk1
  obtain ⟨k0', k1', k2', k3'⟩ := blk4F (HK1.out.nodes _ _ HBF.out)
  obtain ⟨l0', l1', l2', l3'⟩ := blk4F (HK1.out.nodes _ _ HBY.out)
  clear hs1 hk1
  go_simp
  refine hK.out _ _ ⟨k1', l1'⟩ ?_
  clear hK K HS
  (try simp only [Act.put, List.setIfInBounds_toArray, List.set_cons_zero, List.set_cons_succ])
  refine ordG_last (by kernel_rfl) (by kernel_rfl) ?_
  refine' wpOp_step (o := _) ?_ (fun K hK => ?_)
  rotate_left 1
  · (simp only [List.getElem?_toArray, List.getElem?_cons_zero, List.getElem?_cons_succ]; rfl)
  go_simp
  refine hK _ _ ?_
  clear hK K
  (try simp only [Act.put, List.setIfInBounds_toArray, List.set_cons_zero, List.set_cons_succ])
  go_wp2
  go_ret
  exact ⟨by rw [HM.out]; rfl, (fun e => by rw [HM.out]; exact HS1.out (by rw [HM.out] at e; exact e)), (KeepY.of_ext (Ext.refl _).drew.drew).trans HK1.out⟩
set_option maxRecDepth 100000 in
set_option maxHeartbeats 3200000 in
theorem fit_bin (o : UInt8) (ho : letB o = false) (a c p r : Fm) (HA : Hid (FitC a p)) (HC : Hid (FitC c r)) : FitC (.bin o a c) (.bin o p r) := by
  intro st vf vy b w hf hy hs
  obtain ⟨bf, va, va2, rfl, hbf, ha, ha2⟩ := hf
  obtain ⟨by_, vb, vb2, rfl, hby, hc, hc2⟩ := hy
  obtain ⟨ba, _, _, rfl, _⟩ := ha.head
  obtain ⟨bc, _, _, rfl, _⟩ := hc.head
  obtain ⟨ba2, _, _, rfl, _⟩ := ha2.head
  obtain ⟨bc2, _, _, rfl, _⟩ := hc2.head
  have HR := hd (fun (w' : World) (hx : Ext w w') => HA.out st _ _ b w' (ha.ext hx) (hc.ext hx) (hs.ext hx))
  have HR2 := hd (fun (st2 : List (List UInt8)) (w1 : World) (hk : KeepY w w1 b) (h : StB w1 b st2) => HC.out st2 _ _ b w1 (ha2.keep hk.nodes) (hc2.keep hk.nodes) h)
  have HM : Hid (matF (.bin o a c) (.bin o p r) st = if (matF a p st).2 then matF c r (matF a p st).1 else (st, false)) := hd (by rw [matF, if_pos rfl])
  obtain ⟨rr, hr⟩ : ∃ r, matF a p st = r := ⟨_, rfl⟩
  rw [hr] at HM HR
  obtain ⟨st2, q⟩ := rr
  dsimp only at HR HM
  have HBF := hd hbf
  have HBY := hd hby
  obtain ⟨k0, k1, k2, k3⟩ := blk4F hbf
  obtain ⟨l0, l1, l2, l3⟩ := blk4F hby
  have HL : Hid (∀ w, Calls Tryd.prog 48 #[.int .u8 o.toNat] w (Ret w (.bool false))) := hd fun w => by have := i_isLetter o w; rw [ho] at this; exact this
  clear hbf hby ha hc ha2 hc2 hs hr HA HC ho
  go_enter Tryd.func59, Tryd.ntmps59
  go_wp2_with fail
  refine (HL.out _).mono ?_
  rintro e w1 ⟨rfl, rfl⟩
  go_wp2_with fail
  refine wp_region_sink (fun w' => (w').cell? ⟨bf, 0, none⟩ = some (.int .u8 o.toNat) ∧ (w').cell? ⟨by_, 0, none⟩ = some (.int .u8 o.toNat)) 9 10 #[false, false, false, false, false, false, false, false, false, false] (by kernel_rfl) (by kernel_rfl) (by kernel_rfl) ?_
  have HS : (w.drew).cell? ⟨bf, 0, none⟩ = some (.int .u8 o.toNat) ∧ (w.drew).cell? ⟨by_, 0, none⟩ = some (.int .u8 o.toNat) := ⟨k0, l0⟩
  refine' ordG_take 0 (oi := _) (v := _) ?_ ?_ ?_ (Or.inl ⟨?_, ?_⟩) ?_ ?_
  rotate_left 2
  · (simp only [List.getElem?_toArray, List.getElem?_cons_zero]; rfl)
  · kernel_rfl
  · exact fun _ _ _ h => h
  · rfl
  · (intro w hSw; (try dsimp only at hSw); go_simp; (try with_reducible rfl))
  · exact HS
  (try simp only [Act.put, List.setIfInBounds_toArray, List.set_cons_zero, List.set_cons_succ])
  refine' ordG_take 1 (oi := _) (v := _) ?_ ?_ ?_ (Or.inl ⟨?_, ?_⟩) ?_ ?_
  rotate_left 2
  · (simp only [List.getElem?_toArray, List.getElem?_cons_zero, List.getElem?_cons_succ]; rfl)
  · kernel_rfl
  · exact fun _ _ _ h => h
  · rfl
  · (intro w hSw; (try dsimp only at hSw); go_simp; (try with_reducible rfl))
  · exact HS
  (try simp only [Act.put, List.setIfInBounds_toArray, List.set_cons_zero, List.set_cons_succ])
  refine' ordG_take 2 (oi := _) (v := _) ?_ ?_ ?_ (Or.inl ⟨?_, ?_⟩) ?_ ?_
  rotate_left 2
  · (simp only [List.getElem?_toArray, List.getElem?_cons_zero, List.getElem?_cons_succ]; rfl)
  · kernel_rfl
  · exact fun _ _ _ h => h
  · rfl
  · (intro w hSw; (try dsimp only at hSw); go_simp; (try with_reducible rfl))
  · exact HS
  (try simp only [Act.put, List.setIfInBounds_toArray, List.set_cons_zero, List.set_cons_succ])
  refine' ordG_take 3 (oi := _) (v := _) ?_ ?_ ?_ (Or.inl ⟨?_, ?_⟩) ?_ ?_
  rotate_left 2
  · (simp only [List.getElem?_toArray, List.getElem?_cons_zero, List.getElem?_cons_succ]; rfl)
  · kernel_rfl
  · exact fun _ _ _ h => h
  · rfl
  · (intro w hSw; (try dsimp only at hSw); go_simp; (try with_reducible rfl))
  · exact HS
  (try simp only [Act.put, List.setIfInBounds_toArray, List.set_cons_zero, List.set_cons_succ])
  refine' ordG_take 4 (oi := _) (v := _) ?_ ?_ ?_ (Or.inl ⟨?_, ?_⟩) ?_ ?_
  rotate_left 2
  · (simp only [List.getElem?_toArray, List.getElem?_cons_zero, List.getElem?_cons_succ]; rfl)
  · kernel_rfl
  · exact fun _ _ _ h => h
  · rfl
  · (intro w hSw; (try dsimp only at hSw); go_simp; (try with_reducible rfl))
  · exact HS
  (try simp only [Act.put, List.setIfInBounds_toArray, List.set_cons_zero, List.set_cons_succ])
  refine' ordG_take 5 (oi := _) (v := _) ?_ ?_ ?_ (Or.inl ⟨?_, ?_⟩) ?_ ?_
  rotate_left 2
  · (simp only [List.getElem?_toArray, List.getElem?_cons_zero, List.getElem?_cons_succ]; rfl)
  · kernel_rfl
  · exact fun _ _ _ h => h
  · rfl
  · (intro w hSw; (try dsimp only at hSw); go_simp; (try with_reducible rfl))
  · exact HS
  (try simp only [Act.put, List.setIfInBounds_toArray, List.set_cons_zero, List.set_cons_succ])
  refine' ordG_take 6 (oi := _) (v := _) ?_ ?_ ?_ (Or.inl ⟨?_, ?_⟩) ?_ ?_
  rotate_left 2
  · (simp only [List.getElem?_toArray, List.getElem?_cons_zero, List.getElem?_cons_succ]; rfl)
  · kernel_rfl
  · exact fun _ _ _ h => h
  · rfl
  · (intro w hSw; (try dsimp only at hSw); go_simp; (try with_reducible rfl))
  · exact HS
  (try simp only [Act.put, List.setIfInBounds_toArray, List.set_cons_zero, List.set_cons_succ])
  refine' ordG_take 7 (oi := _) (v := _) ?_ ?_ ?_ (Or.inl ⟨?_, ?_⟩) ?_ ?_
  rotate_left 2
  · (simp only [List.getElem?_toArray, List.getElem?_cons_zero, List.getElem?_cons_succ]; rfl)
  · kernel_rfl
  · exact fun _ _ _ h => h
  · rfl
  · (intro w hSw; (try dsimp only at hSw); go_simp; (try with_reducible rfl))
  · exact HS
  (try simp only [Act.put, List.setIfInBounds_toArray, List.set_cons_zero, List.set_cons_succ])
  refine' ordG_take 8 (oi := _) (v := _) ?_ ?_ ?_ (Or.inl ⟨?_, ?_⟩) ?_ ?_
  rotate_left 2
  · (simp only [List.getElem?_toArray, List.getElem?_cons_zero, List.getElem?_cons_succ]; rfl)
  · kernel_rfl
  · exact fun _ _ _ h => h
  · rfl
  · (intro w hSw; (try dsimp only at hSw); go_simp; (try with_reducible rfl))
  · exact HS
  (try simp only [Act.put, List.setIfInBounds_toArray, List.set_cons_zero, List.set_cons_succ])
  refine ordG_last (by kernel_rfl) (by kernel_rfl) ?_
  refine' wpOp_step (o := _) ?_ (fun K hK => ?_)
  rotate_left 1
  · (simp only [List.getElem?_toArray, List.getElem?_cons_zero, List.getElem?_cons_succ]; rfl)
  go_simp
  refine hK _ _ ?_
  clear hK K HS
  (try simp only [Act.put, List.setIfInBounds_toArray, List.set_cons_zero, List.set_cons_succ])
  go_wp2_with fail
  refine wp_region_sink (fun w' => (w').cell? ⟨bf, 1, none⟩ = some (.pointer (some ⟨ba, 0, none⟩)) ∧ (w').cell? ⟨by_, 1, none⟩ = some (.pointer (some ⟨bc, 0, none⟩)) ∧ (w').cell? ⟨bf, 2, none⟩ = some (.pointer (some ⟨ba2, 0, none⟩)) ∧ (w').cell? ⟨by_, 2, none⟩ = some (.pointer (some ⟨bc2, 0, none⟩))) 22 23 #[false, false, false, false, false, false, false, false, false, false, false, false, false, false, false, false, false, false, false, false, false, false, false] (by kernel_rfl) (by kernel_rfl) (by kernel_rfl) ?_
  have HS : (w.drew.drew).cell? ⟨bf, 1, none⟩ = some (.pointer (some ⟨ba, 0, none⟩)) ∧ (w.drew.drew).cell? ⟨by_, 1, none⟩ = some (.pointer (some ⟨bc, 0, none⟩)) ∧ (w.drew.drew).cell? ⟨bf, 2, none⟩ = some (.pointer (some ⟨ba2, 0, none⟩)) ∧ (w.drew.drew).cell? ⟨by_, 2, none⟩ = some (.pointer (some ⟨bc2, 0, none⟩)) := ⟨k1, l1, k2, l2⟩
  refine' ordG_take 0 (oi := _) (v := _) ?_ ?_ ?_ (Or.inl ⟨?_, ?_⟩) ?_ ?_
  rotate_left 2
  · (simp only [List.getElem?_toArray, List.getElem?_cons_zero]; rfl)
  · kernel_rfl
  · exact fun _ _ _ h => h
  · rfl
  · (intro w hSw; (try dsimp only at hSw); go_simp; (try with_reducible rfl))
  · exact HS
  (try simp only [Act.put, List.setIfInBounds_toArray, List.set_cons_zero, List.set_cons_succ])
  refine' ordG_take 1 (oi := _) (v := _) ?_ ?_ ?_ (Or.inl ⟨?_, ?_⟩) ?_ ?_
  rotate_left 2
  · (simp only [List.getElem?_toArray, List.getElem?_cons_zero, List.getElem?_cons_succ]; rfl)
  · kernel_rfl
  · exact fun _ _ _ h => h
  · rfl
  · (intro w hSw; (try dsimp only at hSw); go_simp; (try with_reducible rfl))
  · exact HS
  (try simp only [Act.put, List.setIfInBounds_toArray, List.set_cons_zero, List.set_cons_succ])
  refine' ordG_take 2 (oi := _) (v := _) ?_ ?_ ?_ (Or.inl ⟨?_, ?_⟩) ?_ ?_
  rotate_left 2
  · (simp only [List.getElem?_toArray, List.getElem?_cons_zero, List.getElem?_cons_succ]; rfl)
  · kernel_rfl
  · exact fun _ _ _ h => h
  · rfl
  · (intro w hSw; (try dsimp only at hSw); go_simp; (try with_reducible rfl))
  · exact HS
  (try simp only [Act.put, List.setIfInBounds_toArray, List.set_cons_zero, List.set_cons_succ])
  refine' ordG_take 3 (oi := _) (v := _) ?_ ?_ ?_ (Or.inl ⟨?_, ?_⟩) ?_ ?_
  rotate_left 2
  · (simp only [List.getElem?_toArray, List.getElem?_cons_zero, List.getElem?_cons_succ]; rfl)
  · kernel_rfl
  · exact fun _ _ _ h => h
  · rfl
  · (intro w hSw; (try dsimp only at hSw); go_simp; (try with_reducible rfl))
  · exact HS
  (try simp only [Act.put, List.setIfInBounds_toArray, List.set_cons_zero, List.set_cons_succ])
  refine' ordG_take 4 (oi := _) (v := _) ?_ ?_ ?_ (Or.inl ⟨?_, ?_⟩) ?_ ?_
  rotate_left 2
  · (simp only [List.getElem?_toArray, List.getElem?_cons_zero, List.getElem?_cons_succ]; rfl)
  · kernel_rfl
  · exact fun _ _ _ h => h
  · rfl
  · (intro w hSw; (try dsimp only at hSw); go_simp; (try with_reducible rfl))
  · exact HS
  (try simp only [Act.put, List.setIfInBounds_toArray, List.set_cons_zero, List.set_cons_succ])
  refine' ordG_take 5 (oi := _) (v := _) ?_ ?_ ?_ (Or.inl ⟨?_, ?_⟩) ?_ ?_
  rotate_left 2
  · (simp only [List.getElem?_toArray, List.getElem?_cons_zero, List.getElem?_cons_succ]; rfl)
  · kernel_rfl
  · exact fun _ _ _ h => h
  · rfl
  · (intro w hSw; (try dsimp only at hSw); go_simp; (try with_reducible rfl))
  · exact HS
  (try simp only [Act.put, List.setIfInBounds_toArray, List.set_cons_zero, List.set_cons_succ])
  refine' ordG_take 6 (oi := _) (v := _) ?_ ?_ ?_ (Or.inl ⟨?_, ?_⟩) ?_ ?_
  rotate_left 2
  · (simp only [List.getElem?_toArray, List.getElem?_cons_zero, List.getElem?_cons_succ]; rfl)
  · kernel_rfl
  · exact fun _ _ _ h => h
  · rfl
  · (intro w hSw; (try dsimp only at hSw); go_simp; (try with_reducible rfl))
  · exact HS
  (try simp only [Act.put, List.setIfInBounds_toArray, List.set_cons_zero, List.set_cons_succ])
  refine' ordG_take 7 (oi := _) (v := _) ?_ ?_ ?_ (Or.inl ⟨?_, ?_⟩) ?_ ?_
  rotate_left 2
  · (simp only [List.getElem?_toArray, List.getElem?_cons_zero, List.getElem?_cons_succ]; rfl)
  · kernel_rfl
  · exact fun _ _ _ h => h
  · rfl
  · (intro w hSw; (try dsimp only at hSw); go_simp; (try with_reducible rfl))
  · exact HS
  (try simp only [Act.put, List.setIfInBounds_toArray, List.set_cons_zero, List.set_cons_succ])
  refine' ordG_take 8 (oi := _) (v := _) ?_ ?_ ?_ (Or.inl ⟨?_, ?_⟩) ?_ ?_
  rotate_left 2
  · (simp only [List.getElem?_toArray, List.getElem?_cons_zero, List.getElem?_cons_succ]; rfl)
  · kernel_rfl
  · exact fun _ _ _ h => h
  · rfl
  · (intro w hSw; (try dsimp only at hSw); go_simp; (try with_reducible rfl))
  · exact HS
  (try simp only [Act.put, List.setIfInBounds_toArray, List.set_cons_zero, List.set_cons_succ])
  refine ordG_all (rs := [9]) (by kernel_rfl) (by simp) (by decide) ?_
  refine' ordG_cons (o := _) ?_ (fun K hK => ?_) ordG_nil
  rotate_left 1
  · (simp only [List.getElem?_toArray, List.getElem?_cons_zero, List.getElem?_cons_succ]; rfl)
  go_simp
  go_at_call 59
  refine (HR.out _ (Ext.refl _).drew.drew).mono ?_
  rintro e w1 ⟨rfl, hs1, hk1⟩
  have HS1 := hd hs1
  have HK1 := hd hk1
  obtain ⟨k0', k1', k2', k3'⟩ := blk4F (HK1.out.nodes _ _ HBF.out)
  obtain ⟨l0', l1', l2', l3'⟩ := blk4F (HK1.out.nodes _ _ HBY.out)
  clear hs1 hk1
  go_simp
  refine hK.out _ _ ⟨k1', l1', k2', l2'⟩ ?_
  clear hK K HS
  (try simp only [Act.put, List.setIfInBounds_toArray, List.set_cons_zero, List.set_cons_succ])
  have HS : w1.cell? ⟨bf, 1, none⟩ = some (.pointer (some ⟨ba, 0, none⟩)) ∧ w1.cell? ⟨by_, 1, none⟩ = some (.pointer (some ⟨bc, 0, none⟩)) ∧ w1.cell? ⟨bf, 2, none⟩ = some (.pointer (some ⟨ba2, 0, none⟩)) ∧ w1.cell? ⟨by_, 2, none⟩ = some (.pointer (some ⟨bc2, 0, none⟩)) := ⟨k1', l1', k2', l2'⟩
  cases q
  · refine' ordG_take 10 (oi := _) (v := _) ?_ ?_ ?_ (Or.inl ⟨?_, ?_⟩) ?_ ?_
    rotate_left 2
    · (simp only [List.getElem?_toArray, List.getElem?_cons_zero, List.getElem?_cons_succ]; rfl)
    · kernel_rfl
    · exact fun _ _ _ h => h
    · rfl
    · (intro w hSw; (try dsimp only at hSw); go_simp; (try with_reducible rfl))
    · exact HS
    (try simp only [Act.put, List.setIfInBounds_toArray, List.set_cons_zero, List.set_cons_succ])
    refine' ordG_take 11 (oi := _) (v := _) ?_ ?_ ?_ (Or.inr ⟨?_, ?_⟩) ?_ ?_
    rotate_left 2
    · (simp only [List.getElem?_toArray, List.getElem?_cons_zero, List.getElem?_cons_succ]; rfl)
    · kernel_rfl
    · exact fun _ _ _ h => h
    · rfl
    · rfl
    · exact HS
    (try simp only [Act.put, List.setIfInBounds_toArray, List.set_cons_zero, List.set_cons_succ])
    refine' ordG_take 12 (oi := _) (v := _) ?_ ?_ ?_ (Or.inr ⟨?_, ?_⟩) ?_ ?_
    rotate_left 2
    · (simp only [List.getElem?_toArray, List.getElem?_cons_zero, List.getElem?_cons_succ]; rfl)
    · kernel_rfl
    · exact fun _ _ _ h => h
    · rfl
    · rfl
    · exact HS
    (try simp only [Act.put, List.setIfInBounds_toArray, List.set_cons_zero, List.set_cons_succ])
    refine' ordG_take 13 (oi := _) (v := _) ?_ ?_ ?_ (Or.inr ⟨?_, ?_⟩) ?_ ?_
    rotate_left 2
    · (simp only [List.getElem?_toArray, List.getElem?_cons_zero, List.getElem?_cons_succ]; rfl)
    · kernel_rfl
    · exact fun _ _ _ h => h
    · rfl
    · rfl
    · exact HS
    (try simp only [Act.put, List.setIfInBounds_toArray, List.set_cons_zero, List.set_cons_succ])
    refine' ordG_take 14 (oi := _) (v := _) ?_ ?_ ?_ (Or.inr ⟨?_, ?_⟩) ?_ ?_
    rotate_left 2
    · (simp only [List.getElem?_toArray, List.getElem?_cons_zero, List.getElem?_cons_succ]; rfl)
    · kernel_rfl
    · exact fun _ _ _ h => h
    · rfl
    · rfl
    · exact HS
    (try simp only [Act.put, List.setIfInBounds_toArray, List.set_cons_zero, List.set_cons_succ])
    refine' ordG_take 15 (oi := _) (v := _) ?_ ?_ ?_ (Or.inr ⟨?_, ?_⟩) ?_ ?_
    rotate_left 2
    · (simp only [List.getElem?_toArray, List.getElem?_cons_zero, List.getElem?_cons_succ]; rfl)
    · kernel_rfl
    · exact fun _ _ _ h => h
    · rfl
    · rfl
    · exact HS
    (try simp only [Act.put, List.setIfInBounds_toArray, List.set_cons_zero, List.set_cons_succ])
    refine' ordG_take 16 (oi := _) (v := _) ?_ ?_ ?_ (Or.inr ⟨?_, ?_⟩) ?_ ?_
    rotate_left 2
    · (simp only [List.getElem?_toArray, List.getElem?_cons_zero, List.getElem?_cons_succ]; rfl)
    · kernel_rfl
    · exact fun _ _ _ h => h
    · rfl
    · rfl
    · exact HS
    (try simp only [Act.put, List.setIfInBounds_toArray, List.set_cons_zero, List.set_cons_succ])
    refine' ordG_take 17 (oi := _) (v := _) ?_ ?_ ?_ (Or.inr ⟨?_, ?_⟩) ?_ ?_
    rotate_left 2
    · (simp only [List.getElem?_toArray, List.getElem?_cons_zero, List.getElem?_cons_succ]; rfl)
    · kernel_rfl
    · exact fun _ _ _ h => h
    · rfl
    · rfl
    · exact HS
    (try simp only [Act.put, List.setIfInBounds_toArray, List.set_cons_zero, List.set_cons_succ])
    refine' ordG_take 18 (oi := _) (v := _) ?_ ?_ ?_ (Or.inr ⟨?_, ?_⟩) ?_ ?_
    rotate_left 2
    · (simp only [List.getElem?_toArray, List.getElem?_cons_zero, List.getElem?_cons_succ]; rfl)
    · kernel_rfl
    · exact fun _ _ _ h => h
    · rfl
    · rfl
    · exact HS
    (try simp only [Act.put, List.setIfInBounds_toArray, List.set_cons_zero, List.set_cons_succ])
    refine' ordG_take 19 (oi := _) (v := _) ?_ ?_ ?_ (Or.inr ⟨?_, ?_⟩) ?_ ?_
    rotate_left 2
    · (simp only [List.getElem?_toArray, List.getElem?_cons_zero, List.getElem?_cons_succ]; rfl)
    · kernel_rfl
    · exact fun _ _ _ h => h
    · rfl
    · rfl
    · exact HS
    (try simp only [Act.put, List.setIfInBounds_toArray, List.set_cons_zero, List.set_cons_succ])
    refine' ordG_take 20 (oi := _) (v := _) ?_ ?_ ?_ (Or.inr ⟨?_, ?_⟩) ?_ ?_
    rotate_left 2
    · (simp only [List.getElem?_toArray, List.getElem?_cons_zero, List.getElem?_cons_succ]; rfl)
    · kernel_rfl
    · exact fun _ _ _ h => h
    · rfl
    · rfl
    · exact HS
    (try simp only [Act.put, List.setIfInBounds_toArray, List.set_cons_zero, List.set_cons_succ])
    refine' ordG_take 21 (oi := _) (v := _) ?_ ?_ ?_ (Or.inl ⟨?_, ?_⟩) ?_ ?_
    rotate_left 2
    · (simp only [List.getElem?_toArray, List.getElem?_cons_zero, List.getElem?_cons_succ]; rfl)
    · kernel_rfl
    · exact fun _ _ _ h => h
    · rfl
    · (intro w hSw; (try dsimp only at hSw); go_simp; (try with_reducible rfl))
    · exact HS
    (try simp only [Act.put, List.setIfInBounds_toArray, List.set_cons_zero, List.set_cons_succ])
    refine ordG_last (by kernel_rfl) (by kernel_rfl) ?_
    refine' wpOp_step (o := _) ?_ (fun K hK => ?_)
    rotate_left 1
    · (simp only [List.getElem?_toArray, List.getElem?_cons_zero, List.getElem?_cons_succ]; rfl)
    go_simp
    refine hK _ _ ?_
    clear hK K
    (try simp only [Act.put, List.setIfInBounds_toArray, List.set_cons_zero, List.set_cons_succ])
    go_wp2
    go_ret
    exact ⟨by rw [HM.out]; rfl, (fun e => by rw [HM.out] at e; cases e), (KeepY.of_ext (Ext.refl _).drew.drew).trans HK1.out⟩
  · have HKA := hd ((KeepY.of_ext (Ext.refl w).drew.drew).trans HK1.out)
    have HR3 := hd (HR2.out st2 w1 HKA.out (HS1.out rfl))
    obtain ⟨rr, hr⟩ : ∃ r9, matF c r st2 = r9 := ⟨_, rfl⟩
    rw [if_pos rfl, hr] at HM
    rw [hr] at HR3
    obtain ⟨st3, q3⟩ := rr
    dsimp only at HR3
    have HBF := hd (HKA.out.nodes _ _ HBF.out)
    have HBY := hd (HKA.out.nodes _ _ HBY.out)
    clear hr HS1 HK1
    refine' ordG_take 10 (oi := _) (v := _) ?_ ?_ ?_ (Or.inl ⟨?_, ?_⟩) ?_ ?_
    rotate_left 2
    · (simp only [List.getElem?_toArray, List.getElem?_cons_zero, List.getElem?_cons_succ]; rfl)
    · kernel_rfl
    · exact fun _ _ _ h => h
    · rfl
    · (intro w hSw; (try dsimp only at hSw); go_simp; (try with_reducible rfl))
    · exact HS
    (try simp only [Act.put, List.setIfInBounds_toArray, List.set_cons_zero, List.set_cons_succ])
    refine' ordG_take 11 (oi := _) (v := _) ?_ ?_ ?_ (Or.inl ⟨?_, ?_⟩) ?_ ?_
    rotate_left 2
    · (simp only [List.getElem?_toArray, List.getElem?_cons_zero, List.getElem?_cons_succ]; rfl)
    · kernel_rfl
    · exact fun _ _ _ h => h
    · rfl
    · (intro w hSw; (try dsimp only at hSw); go_simp; (try with_reducible rfl))
    · exact HS
    (try simp only [Act.put, List.setIfInBounds_toArray, List.set_cons_zero, List.set_cons_succ])
    refine' ordG_take 12 (oi := _) (v := _) ?_ ?_ ?_ (Or.inl ⟨?_, ?_⟩) ?_ ?_
    rotate_left 2
    · (simp only [List.getElem?_toArray, List.getElem?_cons_zero, List.getElem?_cons_succ]; rfl)
    · kernel_rfl
    · exact fun _ _ _ h => h
    · rfl
    · (intro w hSw; (try dsimp only at hSw); go_simp; (try with_reducible rfl))
    · exact HS
    (try simp only [Act.put, List.setIfInBounds_toArray, List.set_cons_zero, List.set_cons_succ])
    refine' ordG_take 13 (oi := _) (v := _) ?_ ?_ ?_ (Or.inl ⟨?_, ?_⟩) ?_ ?_
    rotate_left 2
    · (simp only [List.getElem?_toArray, List.getElem?_cons_zero, List.getElem?_cons_succ]; rfl)
    · kernel_rfl
    · exact fun _ _ _ h => h
    · rfl
    · (intro w hSw; (try dsimp only at hSw); go_simp; (try with_reducible rfl))
    · exact HS
    (try simp only [Act.put, List.setIfInBounds_toArray, List.set_cons_zero, List.set_cons_succ])
    refine' ordG_take 14 (oi := _) (v := _) ?_ ?_ ?_ (Or.inl ⟨?_, ?_⟩) ?_ ?_
    rotate_left 2
    · (simp only [List.getElem?_toArray, List.getElem?_cons_zero, List.getElem?_cons_succ]; rfl)
    · kernel_rfl
    · exact fun _ _ _ h => h
    · rfl
    · (intro w hSw; (try dsimp only at hSw); go_simp; (try with_reducible rfl))
    · exact HS
    (try simp only [Act.put, List.setIfInBounds_toArray, List.set_cons_zero, List.set_cons_succ])
    refine' ordG_take 15 (oi := _) (v := _) ?_ ?_ ?_ (Or.inl ⟨?_, ?_⟩) ?_ ?_
    rotate_left 2
    · (simp only [List.getElem?_toArray, List.getElem?_cons_zero, List.getElem?_cons_succ]; rfl)
    · kernel_rfl
    · exact fun _ _ _ h => h
    · rfl
    · (intro w hSw; (try dsimp only at hSw); go_simp; (try with_reducible rfl))
    · exact HS
    (try simp only [Act.put, List.setIfInBounds_toArray, List.set_cons_zero, List.set_cons_succ])
    refine' ordG_take 16 (oi := _) (v := _) ?_ ?_ ?_ (Or.inl ⟨?_, ?_⟩) ?_ ?_
    rotate_left 2
    · (simp only [List.getElem?_toArray, List.getElem?_cons_zero, List.getElem?_cons_succ]; rfl)
    · kernel_rfl
    · exact fun _ _ _ h => h
    · rfl
    · (intro w hSw; (try dsimp only at hSw); go_simp; (try with_reducible rfl))
    · exact HS
    (try simp only [Act.put, List.setIfInBounds_toArray, List.set_cons_zero, List.set_cons_succ])
    refine' ordG_take 17 (oi := _) (v := _) ?_ ?_ ?_ (Or.inl ⟨?_, ?_⟩) ?_ ?_
    rotate_left 2
    · (simp only [List.getElem?_toArray, List.getElem?_cons_zero, List.getElem?_cons_succ]; rfl)
    · kernel_rfl
    · exact fun _ _ _ h => h
    · rfl
    · (intro w hSw; (try dsimp only at hSw); go_simp; (try with_reducible rfl))
    · exact HS
    (try simp only [Act.put, List.setIfInBounds_toArray, List.set_cons_zero, List.set_cons_succ])
    refine' ordG_take 18 (oi := _) (v := _) ?_ ?_ ?_ (Or.inl ⟨?_, ?_⟩) ?_ ?_
    rotate_left 2
    · (simp only [List.getElem?_toArray, List.getElem?_cons_zero, List.getElem?_cons_succ]; rfl)
    · kernel_rfl
    · exact fun _ _ _ h => h
    · rfl
    · (intro w hSw; (try dsimp only at hSw); go_simp; (try with_reducible rfl))
    · exact HS
    (try simp only [Act.put, List.setIfInBounds_toArray, List.set_cons_zero, List.set_cons_succ])
    refine' ordG_take 19 (oi := _) (v := _) ?_ ?_ ?_ (Or.inl ⟨?_, ?_⟩) ?_ ?_
    rotate_left 2
    · (simp only [List.getElem?_toArray, List.getElem?_cons_zero, List.getElem?_cons_succ]; rfl)
    · kernel_rfl
    · exact fun _ _ _ h => h
    · rfl
    · (intro w hSw; (try dsimp only at hSw); go_simp; (try with_reducible rfl))
    · exact HS
    (try simp only [Act.put, List.setIfInBounds_toArray, List.set_cons_zero, List.set_cons_succ])
    refine ordG_all (rs := [20]) (by kernel_rfl) (by simp) (by decide) ?_
    refine' ordG_cons (o := _) ?_ (fun K hK => ?_) ordG_nil
    rotate_left 1
    · (simp only [List.getElem?_toArray, List.getElem?_cons_zero, List.getElem?_cons_succ]; rfl)
    go_simp
    go_at_call 59
    refine (HR3.out).mono ?_
    rintro e w5 ⟨rfl, hs1, hk1⟩
    have HS1 := hd hs1
    have HK1 := hd hk1
    obtain ⟨k0', k1', k2', k3'⟩ := blk4F (HK1.out.nodes _ _ HBF.out)
    obtain ⟨l0', l1', l2', l3'⟩ := blk4F (HK1.out.nodes _ _ HBY.out)
    clear hs1 hk1
    go_simp
    refine hK.out _ _ ⟨k1', l1', k2', l2'⟩ ?_
    clear hK K HS
    (try simp only [Act.put, List.setIfInBounds_toArray, List.set_cons_zero, List.set_cons_succ])
    have HS : w5.cell? ⟨bf, 1, none⟩ = some (.pointer (some ⟨ba, 0, none⟩)) ∧ w5.cell? ⟨by_, 1, none⟩ = some (.pointer (some ⟨bc, 0, none⟩)) ∧ w5.cell? ⟨bf, 2, none⟩ = some (.pointer (some ⟨ba2, 0, none⟩)) ∧ w5.cell? ⟨by_, 2, none⟩ = some (.pointer (some ⟨bc2, 0, none⟩)) := ⟨k1', l1', k2', l2'⟩
    refine' ordG_take 21 (oi := _) (v := _) ?_ ?_ ?_ (Or.inl ⟨?_, ?_⟩) ?_ ?_
    rotate_left 2
    · (simp only [List.getElem?_toArray, List.getElem?_cons_zero, List.getElem?_cons_succ]; rfl)
    · kernel_rfl
    · exact fun _ _ _ h => h
    · rfl
    · (intro w hSw; (try dsimp only at hSw); go_simp; (try with_reducible rfl))
    · exact HS
    (try simp only [Act.put, List.setIfInBounds_toArray, List.set_cons_zero, List.set_cons_succ])
    refine ordG_last (by kernel_rfl) (by kernel_rfl) ?_
    refine' wpOp_step (o := _) ?_ (fun K hK => ?_)
    rotate_left 1
    · (simp only [List.getElem?_toArray, List.getElem?_cons_zero, List.getElem?_cons_succ]; rfl)
    go_simp
    refine hK _ _ ?_
    clear hK K
    (try simp only [Act.put, List.setIfInBounds_toArray, List.set_cons_zero, List.set_cons_succ])
    go_wp2
    go_ret
    exact ⟨by rw [HM.out]; rfl, (fun e => by rw [HM.out]; exact HS1.out (by rw [HM.out] at e; exact e)), HKA.out.trans HK1.out⟩
end Go.Proofs.YtapgpjhogdmjbaaDoor
