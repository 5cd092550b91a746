/-
  Slices of lists that share their rows: append, slices.Grow(nil, n), slices.Concat of two, cloneLists. Condition: up to 2^20 lists.
-/
import Derived.Test.YtlegfibfjhfkhaaFamB
import Derived.Test.YtlegfibfjhfkhaaSplit
import Derived.Test.YtlegfibfjhfkhaaLays
import Derived.Shelf.Spec.SlicesGrow
namespace Go.Proofs.Ytlegfibfjhfkhaa
open Go.RowKit
/-- A slice of the call's own whose rows stand in the world ahead of it. -/
def OwnR (w0 w : World) (lo : Nat) (v : Value) (xss : List (List Int)) : Prop :=
  ∃ vs : List Value, Own w lo 52 1 v xss.length vs ∧ ∀ (i : Nat) (xs : List Int), xss[i]? = some xs → ∃ u, vs[i]? = some u ∧ RdI w0 u xs
section
variable {w0 w w' : World} {lo : Nat} {v src : Value} {xss yss : List (List Int)}
theorem OwnR.ext (h : OwnR w0 w lo v xss) (he : Ext w w') : OwnR w0 w' lo v xss := by
  obtain ⟨vs, h1, h2⟩ := h
  exact ⟨vs, own_ext h1 he, h2⟩
theorem OwnR.rd (h : OwnR w0 w lo v xss) (he : Ext w0 w) : RdSS w v xss := by
  obtain ⟨vs, h1, h2⟩ := h
  exact ⟨vs, own_rd h1, fun i xs hx => by obtain ⟨u, hu, hr⟩ := h2 i xs hx; exact ⟨u, hu, hr.ext he⟩⟩
theorem OwnR.ge (h : OwnR w0 w lo v xss) : ∀ g, v.ownBlock = some g → lo ≤ g := fun g hg => by
  obtain ⟨vs, h1, _⟩ := h
  exact (own_blocks h1 g hg).1
theorem ownR_nil (w0 w : World) (lo : Nat) : OwnR w0 w lo (.slice none 0 0) [] := ⟨[], own_nil _ _ _ _, fun i xs h => by simp at h⟩
theorem ownR_emp {W : World} {b : Nat} (hb : W.heap.size = b) (hl : lo ≤ b) : OwnR w0 (W.alloc (.cells #[] 52)) lo (.slice (some ⟨b, 0, none⟩) 0 0) [] := by
  subst hb
  exact ⟨[], own_lit W lo 52 1 #[] 0 hl (Nat.zero_le _) rfl, fun i xs h => by simp at h⟩
theorem rows_one {vs : List Value} {n : Nat} (hl : vs.length = n) (hn : n = yss.length) (h : ∀ (i : Nat) (xs : List Int), yss[i]? = some xs → ∃ u, vs[i]? = some u ∧ RdI w0 u xs) : ∀ u ∈ vs, u.oneCell' = true := by
  intro u hu
  obtain ⟨i, hi, rfl⟩ := List.mem_iff_getElem.1 hu
  obtain ⟨u', hu', hr⟩ := h i _ (List.getElem?_eq_getElem (by omega))
  rw [List.getElem?_eq_getElem hi] at hu'
  obtain rfl := Option.some.inj hu'
  obtain ⟨A, c, e, -⟩ := hr.form
  rw [e]; rfl
theorem OwnR.app {us vs : List Value} {v' : Value} {w2 : World} (h1 : ∀ (i : Nat) (xs : List Int), xss[i]? = some xs → ∃ u, us[i]? = some u ∧ RdI w0 u xs) (h2 : ∀ (i : Nat) (xs : List Int), yss[i]? = some xs → ∃ u, vs[i]? = some u ∧ RdI w0 u xs) (hl : us.length = xss.length)
    (ho : Own w2 lo 52 1 v' (xss.length + yss.length) (us ++ vs)) : OwnR w0 w2 lo v' (xss ++ yss) := by
  refine ⟨us ++ vs, by rw [List.length_append]; exact ho, fun i xs hx => ?_⟩
  by_cases hi : i < xss.length
  · rw [List.getElem?_append_left hi] at hx
    rw [List.getElem?_append_left (by omega)]
    exact h1 i xs hx
  · rw [List.getElem?_append_right (by omega)] at hx
    rw [List.getElem?_append_right (by omega), hl]
    exact h2 _ xs hx
end
section
variable {w : World} {ops : Array Oper} {rest : List Oper} {o : Oper} {a : Act} {Q : Exit → Act → World → Prop}
theorem wp_appR {K :  Act → World → Prop} (w0 w : World) {v src : Value} {xss yss : List (List Int)} {base : Nat} (hown : OwnR w0 w base v xss) (hx0 : Ext w0 w) (hsrc : RdSS w0 src yss) (s x : Operand)
    (ho : o.op = .call { callee := .builtin .append, args := #[s, x], argTypes := #[22, 22] })
    (hs : a.eval s = v) (hx : a.eval x = src) (hn : xss.length + yss.length ≤ 2147483648) (hbase : base ≤ w.heap.size)
    (h : ∀ v' w', OwnR w0 w' base v' (xss ++ yss) → w.grownBy w' v.ownBlock → K (a.put o.dst v') w') : o.wp Try.prog a w K Q := by
  obtain ⟨us, h1, h2⟩ := hown
  obtain ⟨vs, h3, h4⟩ := hsrc
  have hl1 : us.length = xss.length := by have := h1.1; omega
  have hl3 : vs.length = yss.length := by have := h3.1; omega
  exact wp_app w s x 22 ho base 52 Try.underlying22 info_ints (by decide) rfl (by decide) h1 (h3.ext hx0) (rows_one hl3 rfl h4) hs hx hn hbase fun v' w' k1 k2 _ => h v' w' (OwnR.app h2 h4 hl1 k1) k2
/-- append(v, src...), lists. -/
theorem appR (w0 w : World) {v src : Value} {xss yss : List (List Int)} {base : Nat} (hown : OwnR w0 w base v xss) (hx0 : Ext w0 w) (hsrc : RdSS w0 src yss) (hgd : o.guard = none) (s x : Operand)
    (ho : o.op = .call { callee := .builtin .append, args := #[s, x], argTypes := #[22, 22] })
    (hs : a.eval s = v) (hx : a.eval x = src) (hn : xss.length + yss.length ≤ 2147483648) (hbase : base ≤ w.heap.size)
    (h : ∀ v' w', OwnR w0 w' base v' (xss ++ yss) → w.grownBy w' v.ownBlock → wpList Try.prog ops Q rest (a.put o.dst v') w') :
    wpList Try.prog ops Q (o :: rest) a w :=
  wpList_plain hgd fun K hK => wp_appR w0 w hown hx0 hsrc s x ho hs hx hn hbase fun v' w' h1 h2 => hK _ _ (h v' w' h1 h2)
/-- The same at a step of a region that draws its order. -/
theorem stepR {K : Act → World → Prop} {E : Prop} (w0 w : World) {v src : Value} {xss yss : List (List Int)} {base : Nat} (hown : OwnR w0 w base v xss) (hx0 : Ext w0 w) (hsrc : RdSS w0 src yss) (hgd : o.guard = none) (s x : Operand)
    (ho : o.op = .call { callee := .builtin .append, args := #[s, x], argTypes := #[22, 22] })
    (hs : a.eval s = v) (hx : a.eval x = src) (hn : xss.length + yss.length ≤ 2147483648) (hbase : base ≤ w.heap.size)
    (h : ∀ v' w', OwnR w0 w' base v' (xss ++ yss) → w.grownBy w' v.ownBlock → K (a.put o.dst v') w') :
    if Region.wanted o (yielded ops a.tmps) = true then Oper.wp Try.prog o a w K Q else E := by
  have hw : Region.wanted o (yielded ops a.tmps) = true := by simp [Region.wanted, hgd]
  rw [if_pos hw]
  exact wp_appR w0 w hown hx0 hsrc s x ho hs hx hn hbase h
end
theorem blk2L {w : World} {b : Nat} {x y : Value} {e : TypeId} (h : w.heap[b]? = some (.cells #[x, y] e)) : w.cell? ⟨b, 0, none⟩ = some x ∧ w.cell? ⟨b, 1, none⟩ = some y := by simp [World.cell?, h]
theorem own_zeroL (W : World) {e : TypeId} (cs : Array Value) (cap : Nat) {base : Nat} (hc : cs.size = cap) (hm : cap ≤ maxLen) (hb : base ≤ W.heap.size) : Own (W.alloc (.cells cs e)) base e 1 (.slice (some ⟨W.heap.size, 0, none⟩) 0 cap) 0 [] :=
  ⟨rfl, .inr ⟨W.heap.size, cap, cs, rfl, hb, heap_alloc_new W _, Nat.zero_le _, hm, by rw [hc, Nat.mul_one], by simp⟩⟩
/-- slices.Grow(nil, n): an empty slice of the call's own. -/
theorem slices_GrowL (n : Nat) (w : World) (hn : n ≤ 1073741824) : Calls Try.prog 129 #[.slice none 0 0, .int .i64 n] w (fun e w' => ∃ v, e = .returned v ∧ OwnR w w' w.heap.size v [] ∧ Ext w w') := by
  rcases Nat.eq_zero_or_pos n with rfl | h0
  · refine (Any8.slices_Grow_room Try.laysGrowL none 0 0 0 w (Nat.le_refl _) (by omega) (by omega) (Nat.le_refl _)).mono ?_
    rintro e w' ⟨rfl, rfl⟩
    exact ⟨_, rfl, ownR_nil _ _ _, Ext.refl _⟩
  · obtain ⟨i, hi, hz, hz1, hz2⟩ := info_parts info_ints
    refine (Any8.slices_Grow_grow Try.laysGrowL i (.slice none 0 0) hi hz (by rw [hz1]; decide) none 0 0 n [] w (Nat.le_refl _) (by omega) (by rw [hz2]; omega) (by omega) (by simp) (fun _ => rfl) (fun a h => by cases h)).mono ?_
    rintro e w' ⟨rfl, rfl⟩
    have hc1 := grownCap_ge w (0 + n) 0 52
    have hc2 := grownCap_le_maxLen w (0 + n) 0 52 (by unfold maxLen; omega)
    have hX : Ext w w.drew := (Ext.refl w).drew
    refine ⟨_, rfl, ⟨[], own_zeroL w.drew _ _ ?_ hc2 (Nat.le_refl _), fun i xs h => by simp at h⟩, hX.alloc _⟩
    have hg : 0 + n ≤ grownCap w (0 + n) 0 (Try.laysGrowL_ren.t 25) := hc1
    rw [Array.size_append, Array.size_append, size_zeroCells, size_zeroCells]
    show 0 + (0 + n - 0) * 1 + (grownCap w (0 + n) 0 (Try.laysGrowL_ren.t 25) - (0 + n)) * 1 = grownCap w (0 + n) 0 (Try.laysGrowL_ren.t 25)
    omega
def catK (xs ys : List (List Int)) (k : Nat) : List (List Int) := match k with | 0 => [] | 1 => xs | _ => xs ++ ys
set_option maxHeartbeats 800000 in
/-- slices.Concat(xs, ys). -/
theorem slices_ConcatL (xs ys : List (List Int)) (u1 u2 : Value) (b : Nat) (w : World) (h1 : RdSS w u1 xs) (h2 : RdSS w u2 ys) (hl1 : xs.length ≤ 1048576) (hl2 : ys.length ≤ 1048576) (hb : w.heap[b]? = some (.cells #[u1, u2] 22 (0, 0))) :
    Calls Try.prog 65 #[.slice (some ⟨b, 0, none⟩) 2 2] w (fun e w' => ∃ v, e = .returned v ∧ OwnR w w' w.heap.size v (xs ++ ys) ∧ Ext w w') := by
  obtain ⟨k0, k1⟩ := blk2L hb
  have HR1 := hd h1
  have HR2 := hd h2
  have HB := hd hb
  obtain ⟨A1, c1, rfl, h11, h12, -⟩ := h1.form
  obtain ⟨A2, c2, rfl, h21, h22, -⟩ := h2.form
  clear h1 h2 hb
  generalize hn : xs.length = n at *
  generalize hm : ys.length = m at *
  have HN := hd hn
  have HM := hd hm
  clear hn hm
  go_enter Try.func65, Try.ntmps65
  go_wp2
  go_loop [11, 3, 5] (fun i z _ => ∃ k : Nat, k ≤ 2 ∧ i = .int .i64 (k : Int) ∧ ∃ s : Nat, z = .int .i64 (s : Int) ∧ s = (if k = 0 then 0 else if k = 1 then n else n + m)) (fun i _ _ => 2 - (intOf i).toNat)
  case atStart => exact ⟨0, by omega, rfl, 0, rfl, rfl⟩
  case round =>
    obtain ⟨k, hk, rfl, s, rfl, hs⟩ := hrel
    rcases (by omega : k = 0 ∨ k = 1 ∨ k = 2) with rfl | rfl | rfl
    · rw [if_pos rfl] at hs
      subst hs
      have hn0 : ¬ ((n : Int) < 0) := by omega
      go_wp2
      go_round
      case rel => exact ⟨1, by omega, rfl, n, by first | rfl | simp, rfl⟩
      case measure => decide
    · rw [if_neg (by decide), if_pos rfl] at hs
      have hs := hs.symm
      subst hs
      have hn0 : ¬ ((n : Int) + (m : Int) < 0) := by omega
      go_wp2
      go_round
      case rel => exact ⟨2, by omega, rfl, n + m, by first | rfl | simp, rfl⟩
      case measure => decide
    · rw [if_neg (by decide), if_neg (by decide)] at hs
      subst hs
      go_wp2_with fail
      refine (slices_GrowL (n + m) _ (by omega)).mono ?_
      rintro e w1 ⟨v1, rfl, ho1, hx1⟩
      have O1 := hd ho1
      have X1 := hd hx1
      clear ho1 hx1
      go_wp2
      go_loopw [27, 6, 8] (fun i v _ wr => ∃ k : Nat, k ≤ 2 ∧ i = .int .i64 (k : Int) ∧ OwnR w wr w.heap.size v (catK xs ys k) ∧ Ext w wr) (fun i _ _ _ => 2 - (intOf i).toNat)
      case atStart => exact ⟨0, by omega, rfl, O1.out, X1.out⟩
      case round =>
        obtain ⟨k, hk, rfl, ho, hx⟩ := hrel
        have HX := hd hx
        have hls := hx.size
        have m0 := hx.cell k0
        have m1 := hx.cell k1
        clear hx
        rcases (by omega : k = 0 ∨ k = 1 ∨ k = 2) with rfl | rfl | rfl
        · have HO : Hid (OwnR w wr w.heap.size _ []) := hd ho
          clear ho
          go_wp2_with (at_builtin; refine appR w wr HO.out HX.out HR1.out rfl _ _ rfl (by rfl) (by rfl) (by rw [HN.out]; simp; omega) hls ?_; intro v' w2 ho2 hg2)
          go_roundw
          case rel => exact ⟨1, by omega, rfl, ho2, ext_appS HX.out hg2 HO.out.ge⟩
          case measure => simp [intOf]
        · have HO : Hid (OwnR w wr w.heap.size _ xs) := hd ho
          clear ho
          go_wp2_with (at_builtin; refine appR w wr HO.out HX.out HR2.out rfl _ _ rfl (by rfl) (by rfl) (by rw [HN.out, HM.out]; omega) hls ?_; intro v' w2 ho2 hg2)
          go_roundw
          case rel => exact ⟨2, by omega, rfl, ho2, ext_appS HX.out hg2 HO.out.ge⟩
          case measure => simp [intOf]
        · have HO : Hid (OwnR w wr w.heap.size _ (xs ++ ys)) := hd ho
          clear ho
          go_wp2
          go_ret
          exact ⟨_, rfl, HO.out, HX.out⟩
set_option maxHeartbeats 800000 in
theorem i_cloneLists (xss : List (List Int)) (v : Value) (w : World) (h : RdSS w v xss) (hl : xss.length ≤ 1048576) (hr : ∀ xs ∈ xss, xs.length ≤ 1048576) :
    Calls Try.prog 64 #[v] w (RetSS w 52 3 xss) := by
  obtain ⟨A, c, rfl, h1, h2, ha⟩ := h.form
  have HL : Hid (∀ k (hk : k < xss.length), xss[k].length ≤ 1073741824) := hd fun k hk => by have := hr _ (List.getElem_mem hk); omega
  clear h hr
  go_enter Try.func64, Try.ntmps64
  go_wp2
  go_loopw [8, 3, 5] (fun i v _ wr => ∃ k : Nat, k ≤ xss.length ∧ i = .int .i64 k ∧ OwnSS wr w.heap.size wr.heap.size 52 3 v (xss.take k) ∧ Ext w wr) (fun i _ _ _ => xss.length - (intOf i).toNat)
  case atStart => exact ⟨0, by omega, rfl, ⟨[], own_nil _ _ _ _, (fun g hg => by cases hg), rfl, (fun i u xs h => by simp at h), (fun i j u u' g _ h => by simp at h)⟩, Ext.refl _⟩
  case round =>
    obtain ⟨k, hk, rfl, ho, hx⟩ := hrel
    have HX := hd hx
    have HO := hd ho
    have hls := hx.size
    clear ho hx
    by_cases hlt : k < xss.length
    · obtain ⟨a, u, rfl, hc0, hrow⟩ := RdSS.at_ ha hlt
      have hc := HX.out.cell hc0
      have hkl := HL.out k hlt
      have HT : Hid (xss.take (k + 1) = xss.take k ++ [xss[k]]) := hd (by rw [List.take_add_one, List.getElem?_eq_getElem hlt]; rfl)
      have hlen : (xss.take k).length = k := by rw [List.length_take]; omega
      have HRW := hd (hrow.ext HX.out)
      clear hc0 hrow
      generalize xss[k] = y at *
      obtain ⟨A3, c3, rfl, -⟩ := HRW.out.form
      go_wp2_with fail
      refine (slices_Clone y _ wr HRW.out hkl).mono ?_
      rintro e w1 ⟨u1, rfl, hu1, hx1⟩
      have HU := hd hu1
      have X1 := hd hx1
      clear hu1 hx1
      obtain ⟨A4, c4, rfl, HU4⟩ := HU.out.form
      go_wp2_with (at_builtin; refine appL w1 (HO.out.ext X1.out) HU4.out hls X1.out.size rfl _ _ rfl (by rfl) (by rfl) (by rw [hlen]; omega) ?_; intro v' w2 ho2 hg2)
      go_roundw
      case rel => exact ⟨k + 1, by omega, by go_num, by rw [HT.out]; exact ho2, ext_app (HX.out.trans X1.out) hg2 (fun g hg => by obtain ⟨vs, a1, _, _⟩ := HO.out; exact (own_blocks a1 g hg).1)⟩
      case measure => simp [intOf]; omega
    · obtain rfl : k = xss.length := by omega
      have HO2 : Hid (OwnSS wr w.heap.size wr.heap.size 52 3 _ xss) := hd (by have := HO.out; rw [List.take_length] at this; exact this)
      clear HO
      go_wp2
      go_ret
      exact ⟨_, rfl, HO2.out, HX.out⟩
end Go.Proofs.Ytlegfibfjhfkhaa
