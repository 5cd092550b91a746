/-
  A box with a graph that is being made. Conditions: up to 2^20 edges and charges.
-/
import Derived.Test.YtljhcofehhpinaaChgC
import Derived.Test.YtljhcofehhpinaaMrgP
import Derived.Test.YtljhcofehhpinaaShl
import Derived.Deep.RegionLaw
import Derived.Lib.OwnBridge
import Derived.Sort.OwnSortedInts
namespace Go.Proofs.Ytljhcofehhpinaa
open Go.RowKit Go.Shelf
theorem blk_ne {W : World} {b : Nat} {cs : Array Value} {t e : TypeId} {fr : Nat × Nat} (hb : W.heap[b]? = some (.cells cs t fr)) (hte : t ≠ e) {base size k : Nat} {v : Value} {xs : List Value} (hr : Own W base e size v k xs) {g : Nat} (hg : v.ownBlock = some g) : b ≠ g := by
  rcases hr.2 with ⟨rfl, _⟩ | ⟨g', cap, cur, rfl, _, hgb, _⟩
  · cases hg
  · cases hg
    rintro rfl
    rw [hb] at hgb
    injection hgb with h
    injection h with _ h _
    exact hte h
structure BxC (w0 w : World) (bx lo : Nat) (n : Int) (ve vc : Value) (es : List (Int × Int)) (cs : List Int) : Prop where
  blk : w.heap[bx]? = some (.cells #[.int .i64 n, ve, vc] 27 (0, 0))
  own : OwnP w lo 50 ve es
  owc : OwnI w lo 3 vc cs
  ext : Ext w0 w
  low : w0.heap.size ≤ lo
  hig : lo ≤ w.heap.size
  bxl : w0.heap.size ≤ bx
section
variable {w0 w wa w1 : World} {bx lo : Nat} {n : Int} {ve vc v' : Value} {es : List (Int × Int)} {cs : List Int}
theorem BxC.go (h : BxC w0 w bx lo n ve vc es cs) (hx : Ext w w1) : BxC w0 w1 bx lo n ve vc es cs :=
  ⟨hx.heap h.blk, own_ext h.own hx, own_ext h.owc hx, h.ext.trans hx, h.low, Nat.le_trans h.hig hx.size, h.bxl⟩
theorem BxC.rd (h : BxC w0 w bx lo n ve vc es cs) : RdC w (.agg #[.int .i64 n, ve, vc]) ⟨n, es, cs⟩ := ⟨_, _, rfl, own_rd h.own, own_rd h.owc⟩
theorem BxC.pushE {es' : List (Int × Int)} (h : BxC w0 w bx lo n ve vc es cs) (ha : Ext w wa) (hg : wa.grownBy w1 ve.ownBlock) (ho : OwnP w1 lo 50 v' es') :
    w1.heap[bx]? = some (.cells #[.int .i64 n, ve, vc] 27 (0, 0)) ∧ BxC w0 (w1.setCell ⟨bx, 1, none⟩ v') bx lo n v' vc es' cs ∧ Ext w0 w1 := by
  have hb := ha.heap h.blk
  have hb1 : w1.heap[bx]? = some (.cells #[.int .i64 n, ve, vc] 27 (0, 0)) := (hg.block bx (Array.getElem?_eq_some_iff.1 hb).1 (fun e => blk_ne hb (by decide) (own_ext h.own ha) e.symm rfl)).trans hb
  have hX : Ext w0 w1 := ext_appS (h.ext.trans ha) hg fun g hg' => Nat.le_trans h.low (own_blocks h.own g hg').1
  have oc : OwnI w1 lo 3 vc cs := own_grown (own_ext h.owc ha) hg fun g a b => own_ne h.owc h.own (by decide) a b
  have hset : w1.grownBy (w1.setCell ⟨bx, 1, none⟩ v') (some bx) := grown_set (grown_refl _ _) _ _
  refine ⟨hb1, ⟨by simp [World.setCell, Array.getElem?_modify, hb1], own_grown ho hset fun g a b => blk_ne hb1 (by decide) ho a (by injection b), own_grown oc hset fun g a b => blk_ne hb1 (by decide) oc a (by injection b), ext_b1 hX h.bxl, h.low, ?_, h.bxl⟩, hX⟩
  have := hg.size; have := ha.size; have := h.hig
  simp; omega
theorem BxC.pushC {cs' : List Int} (h : BxC w0 w bx lo n ve vc es cs) (ha : Ext w wa) (hg : wa.grownBy w1 vc.ownBlock) (ho : OwnI w1 lo 3 v' cs') :
    w1.heap[bx]? = some (.cells #[.int .i64 n, ve, vc] 27 (0, 0)) ∧ BxC w0 (w1.setCell ⟨bx, 2, none⟩ v') bx lo n ve v' es cs' ∧ Ext w0 w1 := by
  have hb := ha.heap h.blk
  have hb1 : w1.heap[bx]? = some (.cells #[.int .i64 n, ve, vc] 27 (0, 0)) := (hg.block bx (Array.getElem?_eq_some_iff.1 hb).1 (fun e => blk_ne hb (by decide) (own_ext h.owc ha) e.symm rfl)).trans hb
  have hX : Ext w0 w1 := ext_appS (h.ext.trans ha) hg fun g hg' => Nat.le_trans h.low (own_blocks h.owc g hg').1
  have oe : OwnP w1 lo 50 ve es := own_grown (own_ext h.own ha) hg fun g a b => own_ne h.own h.owc (by decide) a b
  have hset : w1.grownBy (w1.setCell ⟨bx, 2, none⟩ v') (some bx) := grown_set (grown_refl _ _) _ _
  refine ⟨hb1, ⟨by simp [World.setCell, Array.getElem?_modify, hb1], own_grown oe hset fun g a b => blk_ne hb1 (by decide) oe a (by injection b), own_grown ho hset fun g a b => blk_ne hb1 (by decide) ho a (by injection b), ext_b1 hX h.bxl, h.low, ?_, h.bxl⟩, hX⟩
  have := hg.size; have := ha.size; have := h.hig
  simp; omega
/-- append of one edge to the box's, at a step of a region that draws its order. -/
theorem stepEB {x y : Int} {nb : Nat} {e : TypeId} {fr : Nat × Nat} {ops : Array Oper} {o : Oper} {a : Act} {Q : Exit → Act → World → Prop} {K : Act → World → Prop} {E : Prop}
    (h : BxC w0 w bx lo n ve vc es cs) (ha : Ext w wa) (hsrc : wa.heap[nb]? = some (.cells #[.int .i64 x, .int .i64 y] e fr)) (hgd : o.guard = none) (s z : Operand)
    (ho : o.op = .call { callee := .builtin .append, args := #[s, z], argTypes := #[22, 22] })
    (hs : a.eval s = ve) (hx : a.eval z = .slice (some ⟨nb, 0, none⟩) 1 1) (hn : es.length ≤ 1048576)
    (k : ∀ L A c w1, Hid (L = es.length + 1) → w1.heap[bx]? = some (.cells #[.int .i64 n, ve, vc] 27 (0, 0)) → Hid (BxC w0 (w1.setCell ⟨bx, 1, none⟩ (.slice A L c)) bx lo n (.slice A L c) vc (es ++ [(x, y)]) cs) → Ext w0 w1 → wa.grownBy w1 ve.ownBlock → K (a.put o.dst (.slice A L c)) w1) :
    if Region.wanted o (yielded ops a.tmps) = true then Oper.wp Try.prog o a wa K Q else E := by
  have hw : Region.wanted o (yielded ops a.tmps) = true := by simp [Region.wanted, hgd]
  rw [if_pos hw]
  have hrd : RdN wa 2 (.slice (some ⟨nb, 0, none⟩) 1 1) 1 [x, y] := by
    refine ⟨rfl, some ⟨nb, 0, none⟩, 1, rfl, Nat.le_refl _, by unfold maxLen; omega, fun j u hu => ⟨_, rfl, ?_⟩⟩
    exact World.news_of_block hsrc j u hu
  refine wp_app wa s z 22 ho lo 50 Try.underlying22 info_pair (by decide) rfl (by decide) (own_ext h.own ha) hrd (ints_one _) hs hx (by omega) (Nat.le_trans h.hig ha.size) fun v' w' k1 k2 _ => ?_
  have k1' : OwnP w' lo 50 v' (es ++ [(x, y)]) := by
    unfold OwnP OwnN
    rw [flat2_append, ints_append, List.length_append]
    exact k1
  obtain ⟨A, c, rfl, ho2⟩ := k1'.form
  obtain ⟨p1, p2, p3⟩ := h.pushE ha k2 k1'
  rw [List.length_append] at p2 ⊢
  exact k _ A c w' (hd rfl) p1 (hd p2) p3 k2
/-- append of one charge to the box's. -/
theorem stepCB {x : Int} {nb : Nat} {e : TypeId} {fr : Nat × Nat} {ops : Array Oper} {o : Oper} {a : Act} {Q : Exit → Act → World → Prop} {K : Act → World → Prop} {E : Prop}
    (h : BxC w0 w bx lo n ve vc es cs) (ha : Ext w wa) (hsrc : wa.heap[nb]? = some (.cells #[.int .i64 x] e fr)) (hgd : o.guard = none) (s z : Operand)
    (ho : o.op = .call { callee := .builtin .append, args := #[s, z], argTypes := #[23, 23] })
    (hs : a.eval s = vc) (hx : a.eval z = .slice (some ⟨nb, 0, none⟩) 1 1) (hn : cs.length ≤ 1048576)
    (k : ∀ L A c w1, Hid (L = cs.length + 1) → w1.heap[bx]? = some (.cells #[.int .i64 n, ve, vc] 27 (0, 0)) → Hid (BxC w0 (w1.setCell ⟨bx, 2, none⟩ (.slice A L c)) bx lo n ve (.slice A L c) es (cs ++ [x])) → Ext w0 w1 → K (a.put o.dst (.slice A L c)) w1) :
    if Region.wanted o (yielded ops a.tmps) = true then Oper.wp Try.prog o a wa K Q else E := by
  refine stepSI wa (own_ext h.owc ha) (rdI_at hsrc) hgd s z ho hs hx (by simp; omega) (Nat.le_trans h.hig ha.size) fun v' w' k1 k2 _ => ?_
  obtain ⟨A, c, rfl, ho2⟩ := OwnI.form k1
  obtain ⟨p1, p2, p3⟩ := h.pushC ha k2 k1
  rw [List.length_append] at p2 ⊢
  exact k _ A c w' (hd rfl) p1 (hd p2) p3
end
theorem s_l27Edge (g : Chg) (gv : Value) (k : Int) (w : World) (h : RdC w gv g) : Calls Try.prog 25 #[gv, .int .i64 k] w (RetX w (.bool (edgeB g k))) := by
  obtain ⟨A, c, A', c', rfl⟩ := h.form
  have HG := hd h
  clear h
  obtain ⟨q, hq⟩ : ∃ q, goodC g = q := ⟨_, rfl⟩
  have HQ := hd hq
  have HI := hd (fun e => (goodC_inv (hq.trans e)).2.2.1 : q = true → _)
  clear hq
  go_enter Try.func25, Try.ntmps25
  go_wp2_with fail
  refine (s_l27Good g _ _ (HG.out.ext (Ext.new _ _))).mono ?_
  rw [HQ.out]
  rintro e w1 ⟨rfl, hx1⟩
  obtain ⟨k0, k1, k2⟩ := blk3 (hx1.heap (blk_new (w := w) (.cells #[.int .i64 g.n, .slice A g.es.length c, .slice A' g.cs.length c'] 27) rfl))
  cases q
  · go_wp2
    go_ret
    exact RetX.mk (by unfold edgeB; rw [HQ.out]; rfl) hx1.box
  · have hes := HI.out rfl
    go_wp2_with fail
    refine (s_l1In _ _ _ _).mono ?_
    rintro e w2 ⟨rfl, rfl⟩
    go_wp2
    go_ret
    exact RetX.mk (by unfold edgeB; rw [HQ.out]; rfl) hx1.box
theorem i_isEdge (g : Chg) (gv : Value) (k : Int) (w : World) (h : RdC w gv g) (hes : g.es.length ≤ 12) : Calls Try.prog 32 #[gv, .int .i64 k] w (RetX w (.bool (inB k 0 ((g.es.length : Int) - 1)))) := by
  obtain ⟨A, c, A', c', rfl⟩ := h.form
  clear h
  go_enter Try.func32, Try.ntmps32
  go_wp2_with fail
  refine (i_within _ _ _ _).mono ?_
  rintro e w2 ⟨rfl, rfl⟩
  go_wp2
  go_ret
  exact RetX.mk rfl (Ext.new _ _)
theorem slices_DeleteI (xs : List Int) (i j : Nat) (v : Value) (w : World) (lo : Nat) (h : OwnI w lo 3 v xs) (hij : i ≤ j) (hj : j ≤ xs.length) (h0 : 1 ≤ xs.length) :
    Calls Try.prog 63 #[v, .int .i64 i, .int .i64 j] w (fun e w' => ∃ v', e = .returned v' ∧ OwnI w' lo 3 v' (xs.take i ++ xs.drop j) ∧ w.grownBy w' v.ownBlock ∧ v'.ownBlock = v.ownBlock) := by
  have h0' := h
  rcases h.2 with ⟨rfl, hn⟩ | ⟨g, cap, cur, rfl, hb, hg, hnc, hcm, hcs, ht⟩
  · omega
  · have hH : Sort.Holds (Value.int .i64) w g 0 xs.toArray := holds_of_blockI hg (by simpa [ints] using ht)
    refine (sl_Delete g 0 cap i j xs w hH hnc (by unfold maxLen at hcm; omega) hij hj).mono ?_
    rintro e w' ⟨rfl, q, rfl⟩
    have hc := Lib.ownsRow_putRow (q := q) (k := xs.length - (j - i)) (ys := xs.take i ++ xs.drop j ++ List.replicate (j - i) 0) h0' (by simp; omega) (by omega)
    have hl : (xs.take i ++ xs.drop j).length = xs.length - (j - i) := by simp; omega
    have hcut : List.take (xs.length - (j - i)) (xs.take i ++ xs.drop j ++ List.replicate (j - i) (0 : Int)) = xs.take i ++ xs.drop j := by
      rw [← hl]
      exact List.take_left
    rw [hcut] at hc
    refine ⟨_, rfl, by unfold OwnI; rw [hl]; exact hc, ?_, rfl⟩
    exact ⟨rfl, rfl, rfl, by simp [Sort.putRow, Sort.mapBlock, Sort.ahead], fun k hk hne => by
      have : g ≠ k := fun e => hne (by rw [e]; rfl)
      simp [Sort.putRow, Sort.mapBlock, Sort.ahead, Array.getElem?_modify, this]⟩
theorem i_without (cs : List Int) (v : Value) (b : Nat) (w : World) (h : RdI w v cs) (hl : cs.length ≤ 1048576) (hb : b < cs.length) :
    Calls Try.prog 34 #[v, .int .i64 b] w (RetI w 3 (cs.take b ++ cs.drop (b + 1))) := by
  go_enter Try.func34, Try.ntmps34
  go_wp2_with fail
  refine (slices_Clone cs _ _ h (by omega)).mono ?_
  rintro e w1 ⟨u, rfl, hu, hx⟩
  have HU := hd hu
  have HX := hd hx
  clear hu hx
  go_wp2_with fail
  refine (slices_DeleteI cs b (b + 1) u w1 _ HU.out (by omega) (by omega) (by omega)).mono ?_
  rintro e w2 ⟨v', rfl, ho, hg, -⟩
  go_wp2
  go_ret
  exact ⟨_, rfl, ho, ext_appS HX.out hg fun g hg' => (own_blocks HU.out g hg').1⟩
end Go.Proofs.Ytljhcofehhpinaa
