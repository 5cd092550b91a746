/-
  Chapter 27: charged graphs: the words, the edges at a vertex, and which graphs are good. Conditions: lengths up to 2^29.
-/
import Derived.Test.YtgkifandgacncaaPair
import Derived.Test.YtgkifandgacncaaC1
namespace Go.Proofs.Ytgkifandgacncaa
open Go.RowKit

structure Chg where
  n : Int
  es : List (Int × Int)
  cs : List Int
def RdC (w : World) (v : Value) (g : Chg) : Prop := ∃ ve vc, v = .agg #[.int .i64 g.n, ve, vc] ∧ RdP w ve g.es ∧ RdI w vc g.cs
theorem RdC.ext {w w' : World} {v : Value} {g : Chg} (h : RdC w v g) (he : Ext w w') : RdC w' v g := by
  obtain ⟨ve, vc, h1, h2, h3⟩ := h
  exact ⟨ve, vc, h1, h2.ext he, h3.ext he⟩
theorem RdC.form {w : World} {v : Value} {g : Chg} (h : RdC w v g) : ∃ A c A' c', v = .agg #[.int .i64 g.n, .slice A g.es.length c, .slice A' g.cs.length c'] := by
  obtain ⟨ve, vc, rfl, h2, h3⟩ := h
  obtain ⟨A, c, rfl, _⟩ := h2.form
  obtain ⟨A', c', rfl, _⟩ := h3.form
  exact ⟨A, c, A', c', rfl⟩
/-- The edge of index k touches v. -/
def tchB (es : List (Int × Int)) (v : Int) (k : Nat) : Bool := match es[k]? with
  | some e => decide (e.1 = v) || decide (e.2 = v)
  | none => false
def atN (es : List (Int × Int)) (v : Int) (k : Nat) : List Int := ((List.range k).filter (tchB es v)).map fun j : Nat => (j : Int)
theorem atN_yes {es : List (Int × Int)} {v : Int} {k : Nat} (h : tchB es v k = true) : atN es v (k + 1) = atN es v k ++ [(k : Int)] := by simp [atN, List.range_succ, List.filter_append, h]
theorem atN_no {es : List (Int × Int)} {v : Int} {k : Nat} (h : tchB es v k = false) : atN es v (k + 1) = atN es v k := by simp [atN, List.range_succ, List.filter_append, h]
theorem atN_len (es : List (Int × Int)) (v : Int) (k : Nat) : (atN es v k).length ≤ k := by
  unfold atN
  rw [List.length_map]
  exact Nat.le_trans (List.length_filter_le _ _) (by simp)
theorem tchB_of {es : List (Int × Int)} {v : Int} {k : Nat} (h : k < es.length) : tchB es v k = (decide (es[k].1 = v) || decide (es[k].2 = v)) := by unfold tchB; rw [List.getElem?_eq_getElem h]
theorem ownI_emp {W : World} {base b : Nat} {e : TypeId} (hb : W.heap.size = b) (h : base ≤ b) : OwnI (W.alloc (.cells #[] e)) base e (.slice (some ⟨b, 0, none⟩) 0 0) [] := by
  subst hb
  exact own_lit W base e 1 #[] 0 h (Nat.zero_le _) rfl
theorem Ext.box {w wr : World} {o : Obj} (h : Ext (w.alloc o) wr) : Ext w wr := (Ext.new w o).trans h
theorem ext_appB {w wr w' : World} {v : Value} {o o' : Obj} {e : TypeId} {xs : List Int} (h : Ext (w.alloc o) wr) (hg : (wr.alloc o').grownBy w' v.ownBlock) (ho : OwnI wr (w.heap.size + 1) e v xs) : Ext (w.alloc o) w' :=
  ext_app h hg fun g hg' => by have := ownI_ge ho g hg'; simpa using this
set_option maxHeartbeats 1600000 in
theorem s_l27At (g : Chg) (gv : Value) (v : Int) (w : World) (h : RdC w gv g) (hl : g.es.length ≤ 536870912) :
    Calls Try.prog 51 #[gv, .int .i64 v] w (RetI w 3 (atN g.es v g.es.length)) := by
  obtain ⟨ve, vc, rfl, hE, -⟩ := h
  obtain ⟨A, c, rfl, h1, h2, ha⟩ := hE.form
  clear hE
  generalize g.es = es at *
  go_enter Try.func51, Try.ntmps51
  go_wp2
  go_loopw [6, 5] (fun i v' wr => ∃ k : Nat, k ≤ es.length ∧ i = .int .i64 k ∧ OwnI wr (w.heap.size + 1) 3 v' (atN es v k) ∧ Ext (w.alloc (.cells #[.int .i64 g.n, .slice A es.length c, vc] 32)) wr) (fun i _ _ => es.length - (intOf i).toNat)
  case atStart => exact ⟨0, by omega, rfl, ownI_emp (by simp) (by omega), Ext.new _ _⟩
  case round =>
    obtain ⟨k, hk, rfl, ho, hx⟩ := hrel
    have hb := hx.cell (p := ⟨w.heap.size, 1, none⟩) (u := .slice A es.length c) (by simp [go_sem])
    have HB := hd hx
    have HX := hd hx.box
    have HO := hd ho
    have hxs : w.heap.size + 1 ≤ wr.heap.size := by have := HB.out.size; simpa using this
    have hal := atN_len es v k
    clear ho hx
    by_cases hlt : k < es.length
    · obtain ⟨a, rfl, hc0, hc1⟩ := RdP.at_ ha hlt
      have c0 := HX.out.cell hc0
      have c1 := HX.out.cell hc1
      have HT := hd (tchB_of (v := v) hlt)
      clear hc0 hc1
      generalize es[k] = e at *
      obtain ⟨x, y⟩ := e
      by_cases hxv : x = v
      · have HY := hd (atN_yes (es := es) (v := v) (k := k) (by rw [HT.out]; simp [hxv]))
        have b1 : (x == v) = true := by simp [hxv]
        clear hxv
        go_wp2_with (at_builtin; refine appI wr HO.out rfl _ _ rfl _ (by rfl) (by rfl) (by omega) hxs ?_; intro v' w1 ho1 hg1 _)
        go_roundw
        case rel => exact ⟨k + 1, by omega, by go_num, by rw [HY.out]; exact ho1, ext_appB HB.out hg1 HO.out⟩
        case measure => simp [intOf]; omega
      · have b1 : (x == v) = false := by simp [hxv]
        by_cases hyv : y = v
        · have HY := hd (atN_yes (es := es) (v := v) (k := k) (by rw [HT.out]; simp [hyv]))
          have b2 : (y == v) = true := by simp [hyv]
          clear hyv hxv
          go_wp2_with (at_builtin; refine appI wr HO.out rfl _ _ rfl _ (by rfl) (by rfl) (by omega) hxs ?_; intro v' w1 ho1 hg1 _)
          go_roundw
          case rel => exact ⟨k + 1, by omega, by go_num, by rw [HY.out]; exact ho1, ext_appB HB.out hg1 HO.out⟩
          case measure => simp [intOf]; omega
        · have HN := hd (atN_no (es := es) (v := v) (k := k) (by rw [HT.out]; simp [hxv, hyv]))
          have b2 : (y == v) = false := by simp [hyv]
          clear hyv hxv
          go_wp2
          go_roundw
          case rel => exact ⟨k + 1, by omega, by go_num, by rw [HN.out]; exact HO.out, HB.out⟩
          case measure => simp [intOf]; omega
    · go_wp2
      go_ret
      obtain rfl : k = es.length := by omega
      exact ⟨_, rfl, own_rebase HO.out (by omega), HX.out⟩
set_option maxHeartbeats 1600000 in
theorem i_at (g : Chg) (gv : Value) (v : Int) (w : World) (h : RdC w gv g) (hl : g.es.length ≤ 536870912) :
    Calls Try.prog 26 #[gv, .int .i64 v] w (RetI w 3 (atN g.es v g.es.length)) := by
  obtain ⟨ve, vc, rfl, hE, -⟩ := h
  obtain ⟨A, c, rfl, h1, h2, ha⟩ := hE.form
  clear hE
  generalize g.es = es at *
  go_enter Try.func26, Try.ntmps26
  go_wp2
  go_loopw [11, 5] (fun i v' wr => ∃ k : Nat, k ≤ es.length ∧ i = .int .i64 k ∧ OwnI wr (w.heap.size + 1) 3 v' (atN es v k) ∧ Ext (w.alloc (.cells #[.int .i64 g.n, .slice A es.length c, vc] 32)) wr) (fun i _ _ => es.length - (intOf i).toNat)
  case atStart => exact ⟨0, by omega, rfl, ownI_nil _ _ _, Ext.refl _⟩
  case round =>
    obtain ⟨k, hk, rfl, ho, hx⟩ := hrel
    have HX := hd hx.box
    have hal := atN_len es v k
    by_cases hlt : k < es.length
    · obtain ⟨a, rfl, hc0, hc1⟩ := RdP.at_ ha hlt
      have c0 := HX.out.cell hc0
      have c1 := HX.out.cell hc1
      have HT := hd (tchB_of (v := v) hlt)
      clear hc0 hc1
      generalize es[k] = e at *
      obtain ⟨x, y⟩ := e
      have HB := hd (hx.alloc (.cells #[.int .i64 x, .int .i64 y] 73))
      have HO := hd (OwnI.ext ho (Ext.new wr (.cells #[.int .i64 x, .int .i64 y] 73)))
      have hxs : w.heap.size + 1 ≤ wr.heap.size := by have := hx.size; simpa using this
      clear ho hx
      by_cases hxv : x = v
      · have HY := hd (atN_yes (es := es) (v := v) (k := k) (by rw [HT.out]; simp [hxv]))
        have b1 : (x == v) = true := by simp [hxv]
        clear hxv
        go_wp2_with (at_builtin; refine appIn (wr.alloc (.cells #[.int .i64 x, .int .i64 y] 73)) HO.out rfl _ _ rfl _ (by rfl) (by rfl) (by simp) (by omega) (by simp; omega) ?_; intro v' w1 ho1 hg1 _)
        go_roundw
        case rel => exact ⟨k + 1, by omega, by go_num, by rw [HY.out]; exact ho1, ext_appB HB.out hg1 HO.out⟩
        case measure => simp [intOf]; omega
      · have b1 : (x == v) = false := by simp [hxv]
        by_cases hyv : y = v
        · have HY := hd (atN_yes (es := es) (v := v) (k := k) (by rw [HT.out]; simp [hyv]))
          have b2 : (y == v) = true := by simp [hyv]
          clear hyv hxv
          go_wp2_with (at_builtin; refine appIn (wr.alloc (.cells #[.int .i64 x, .int .i64 y] 73)) HO.out rfl _ _ rfl _ (by rfl) (by rfl) (by simp) (by omega) (by simp; omega) ?_; intro v' w1 ho1 hg1 _)
          go_roundw
          case rel => exact ⟨k + 1, by omega, by go_num, by rw [HY.out]; exact ho1, ext_appB HB.out hg1 HO.out⟩
          case measure => simp [intOf]; omega
        · have HN := hd (atN_no (es := es) (v := v) (k := k) (by rw [HT.out]; simp [hxv, hyv]))
          have b2 : (y == v) = false := by simp [hyv]
          clear hyv hxv
          go_wp2
          go_roundw
          case rel => exact ⟨k + 1, by omega, by go_num, by rw [HN.out]; exact HO.out, HB.out⟩
          case measure => simp [intOf]; omega
    · go_wp2
      go_ret
      obtain rfl : k = es.length := by omega
      exact ⟨_, rfl, own_rebase ho (by omega), HX.out⟩
end Go.Proofs.Ytgkifandgacncaa
