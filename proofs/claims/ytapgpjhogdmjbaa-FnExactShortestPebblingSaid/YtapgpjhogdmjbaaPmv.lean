/-
  Slices of moves of a pebbling: the words, and the laws' helpers on them; append of one move. Conditions: sizes up to 2^20.
-/
import Derived.Test.YtapgpjhogdmjbaaPair
import Derived.Test.YtapgpjhogdmjbaaApp2
import Derived.Test.YtapgpjhogdmjbaaGrow
import Derived.Test.YtapgpjhogdmjbaaLaw
namespace Go.Proofs.Ytapgpjhogdmjbaa
open Go.RowKit
abbrev OwnM (w : World) (lo : Nat) (v : Value) (es : List (Int × Int)) : Prop := OwnP w lo 52 v es
def Rd_PebbleMoveS (w : World) (v : Value) (es : List (Int × Int)) : Prop := RdP w v es
def Bd_PebbleMoveS (es : List (Int × Int)) : Prop := es.length ≤ 1048576
def Own_PebbleMoveS (w : World) (lo hi : Nat) (v : Value) (es : List (Int × Int)) : Prop := OwnM w lo v es ∧ (∀ b, v.ownBlock = some b → b < hi)
def len_PebbleMoveS (es : List (Int × Int)) : Int := es.length * 2
def Mk_PebbleMoveS (w : World) (v : Value) (es : List (Int × Int)) (k0 : Int) : Prop := RdN w 2 v es.length (seqI k0 (es.length * 2))
section
variable {w w' : World} {lo hi : Nat} {v : Value} {es : List (Int × Int)} {k0 : Int}
theorem Own_PebbleMoveS.ext (h : Own_PebbleMoveS w lo hi v es) (he : Ext w w') : Own_PebbleMoveS w' lo hi v es := ⟨own_ext h.1 he, h.2⟩
theorem Own_PebbleMoveS.rd (h : Own_PebbleMoveS w lo hi v es) : Rd_PebbleMoveS w v es := own_rd h.1
theorem Own_PebbleMoveS.touch {lo' hi' : Nat} (h : Own_PebbleMoveS w lo hi v es) (ht : Touch lo' hi' w w') (hd : hi ≤ lo' ∨ hi' ≤ lo) : Own_PebbleMoveS w' lo hi v es :=
  ⟨own_touch h.1 ht fun b hb => by have := h.2 b hb; have := (own_blocks h.1 b hb).1; omega, h.2⟩
theorem Mk_PebbleMoveS.ext (h : Mk_PebbleMoveS w v es k0) (he : Ext w w') : Mk_PebbleMoveS w' v es k0 := RdN.ext h he
theorem len_PebbleMoveS_bd (b : Bd_PebbleMoveS es) : 0 ≤ len_PebbleMoveS es ∧ len_PebbleMoveS es ≤ 4194304 := by
  unfold Bd_PebbleMoveS at b
  unfold len_PebbleMoveS
  omega
end
set_option maxHeartbeats 800000 in
theorem l_eqPebbleMove (x y : Int) (w : World) :
    Calls Try.prog 35 #[.agg #[.int .i64 x, .int .i64 y], .agg #[.int .i64 x, .int .i64 y]] w (RetX w (.bool true)) := by
  go_enter Try.func35, Try.ntmps35
  go_wp2
  go_ret
  exact RetX.mk rfl ((Ext.new _ _).alloc _)
set_option maxRecDepth 100000 in
set_option maxHeartbeats 800000 in
theorem u_eq_PebbleMoveS (es : List (Int × Int)) (v v' : Value) (w : World) (h : Rd_PebbleMoveS w v es) (h' : Rd_PebbleMoveS w v' es) (hl : Bd_PebbleMoveS es) :
    Calls Try.prog 18 #[v, v'] w (RetX w (.bool true)) := by
  obtain ⟨A, c, rfl, h1, h2, ha⟩ := RdP.form h
  obtain ⟨A', c', rfl, h1', h2', ha'⟩ := RdP.form h'
  clear h h'
  unfold Bd_PebbleMoveS at hl
  go_enter Try.func18, Try.ntmps18
  go_wp2
  go_loopw [5] (fun i wr => ∃ k : Nat, k ≤ es.length ∧ i = .int .i64 k ∧ Ext w wr) (fun i _ => es.length - (intOf i).toNat)
  case atStart => exact ⟨0, by omega, rfl, Ext.refl _⟩
  case round =>
    obtain ⟨k, hk, rfl, hx⟩ := hrel
    by_cases hlt : k < es.length
    · obtain ⟨a, rfl, hc0, hc1⟩ := RdP.at_ ha hlt
      obtain ⟨a', rfl, hd0, hd1⟩ := RdP.at_ ha' hlt
      have c0 := hx.cell hc0
      have c1 := hx.cell hc1
      have d0 := hx.cell hd0
      have d1 := hx.cell hd1
      have HX := hd hx
      clear hc0 hc1 hd0 hd1 hx
      generalize es[k] = e at *
      obtain ⟨x, y⟩ := e
      dsimp only at c0 c1 d0 d1
      have e1 : (0 : Int) ≤ (k : Int) := by omega
      have e2 : (k : Int) < (es.length : Int) := by omega
      go_wp2_with fail
      go_region_held3 (fun w' => (w'.cell? (a.add (k * 2)) = some (.int .i64 x) ∧ w'.cell? ⟨(a.add (k * 2)).block, (a.add (k * 2)).off + 1, none⟩ = some (.int .i64 y) ∧ w'.cell? (a'.add (k * 2)) = some (.int .i64 x) ∧ w'.cell? ⟨(a'.add (k * 2)).block, (a'.add (k * 2)).off + 1, none⟩ = some (.int .i64 y)) ∧ Ext wr w') ((refine ⟨⟨Ext.cell ?_ c0, Ext.cell ?_ c1, Ext.cell ?_ d0, Ext.cell ?_ d1⟩, ?_⟩ <;> (repeat (first | assumption | exact Ext.refl _ | apply Ext.drew | exact Ext.trans (Ext.drew (Ext.refl _)) hx2)))) (first | (go_at_call 35; refine (l_eqPebbleMove x y _).mono ?_; rintro e w2 ⟨rfl, hx2⟩))
      have HX2 := hd (HX.out.trans ((Ext.refl _).drew.trans hx2))
      clear hx2
      go_wp2
      go_roundw
      case rel => exact ⟨k + 1, by omega, by go_num, HX2.out⟩
      case measure => simp [intOf]; omega
    · go_wp2
      go_ret
      exact RetX.mk rfl hx
theorem seqM_getI {k0 : Int} {n k : Nat} (h : k < n) : (seqI k0 n)[k]? = some (k0 + k) := by simp [seqI, h]
theorem seqM_2a {k0 : Int} {n k : Nat} (h : k < n) : (seqI k0 (n * 2))[k * 2]? = some (k0 + (k : Int) * 2) := by rw [seqM_getI (by omega), Int.natCast_mul]; rfl
theorem seqM_2b {k0 : Int} {n k : Nat} (h : k < n) : (seqI k0 (n * 2))[k * 2 + 1]? = some (k0 + (k : Int) * 2 + 1) := by rw [seqM_getI (by omega), Int.natCast_add, Int.natCast_mul, ← Int.add_assoc]; rfl
theorem spliceM {X Z : List Int} {k n : Nat} (hX : X.length = n * 2) (hZ : Z.length = n * 2) {x y : Int} (_ : k < n) (hx : X[k * 2]? = some x) (hy : X[k * 2 + 1]? = some y) :
    ((X.take (k * 2) ++ Z.drop (k * 2)).set (k * 2) x).set (k * 2 + 1) y = X.take ((k + 1) * 2) ++ Z.drop ((k + 1) * 2) := by
  rw [splice_set hx (by omega), splice_set hy (by omega)]
  rw [show (k + 1) * 2 = k * 2 + 1 + 1 from by omega]
theorem intsM_set (xs : List Int) (k : Nat) (x : Int) : (ints xs).set k (.int .i64 x) = ints (xs.set k x) := by simp [ints, List.map_set]
set_option maxRecDepth 100000 in
set_option maxHeartbeats 800000 in
theorem l_markPebbleMoveS (es : List (Int × Int)) (v : Value) (k0 : Int) (w : World) (lo : Nat) (h : OwnM w lo v es) (hl : es.length ≤ 1048576) (hk0 : 0 ≤ k0) (hk1 : k0 ≤ 1000000000) (hi : Nat) (hhi : ∀ b, v.ownBlock = some b → b < hi) :
    Calls Try.prog 20 #[v, .int .i64 k0] w fun e w' => e = .returned (.int .i64 (k0 + es.length * 2)) ∧ OwnN w' lo 52 2 v es.length (seqI k0 (es.length * 2)) ∧ Touch lo hi w w' := by
  rcases own_form h with ⟨rfl, hn, _⟩ | ⟨g, cap, rfl, hb, hg, hnc, hcm⟩
  · have hx : es = [] := List.eq_nil_of_length_eq_zero hn
    subst hx
    clear h hn
    go_enter Try.func20, Try.ntmps20
    go_wp2
    refine wp_loop_rounds 1 ?_; rw [rounds_succ]; go_wp2
    go_ret
    exact ⟨by simp, own_nil _ _ _ _, Touch.refl _ _ _⟩
  · have hgh := hhi g rfl
    clear hhi
    have HF := hd (length_flat2 es)
    unfold OwnM OwnP OwnN at *
    generalize flat2 es = xs at *
    generalize es.length = n at *
    have HO0 := hd h
    have HGB := hd hb
    have HGH := hd hgh
    clear h hb hgh
    go_enter Try.func20, Try.ntmps20
    go_wp2
    go_loopw [5, 1] (fun i m wr => ∃ k : Nat, k ≤ n ∧ i = .int .i64 k ∧ m = .int .i64 (k0 + k * 2) ∧ Own wr lo 52 2 (.slice (some ⟨g, 0, none⟩) n cap) n (ints ((seqI k0 (n * 2)).take (k * 2) ++ xs.drop (k * 2))) ∧ Touch lo hi w wr) (fun i _ _ => n - (intOf i).toNat)
    case atStart => exact ⟨0, by omega, rfl, by simp, by simpa using HO0.out, Touch.refl _ _ _⟩
    case round =>
      clear HO0
      obtain ⟨k, hk, rfl, rfl, ho, hx⟩ := hrel
      by_cases hlt : k < n
      · have HO := hd ho
        have HX := hd hx
        obtain ⟨⟨u0, hs0⟩, hf0, hst0⟩ := own_storeN ho (j := k * 2) (by omega)
        obtain ⟨⟨u1, hs1⟩, hf1, -⟩ := own_storeN ho (j := k * 2 + 1) (by omega)
        have HST : Hid (∀ u, Own ((wr.setCell ⟨g, k * 2, none⟩ (.int .i64 (k0 + k * 2))).setCell ⟨g, k * 2 + 1, none⟩ u) _ _ 2 _ _ _) := hd fun u => (World.ownsRow.stored (hst0.out (.int .i64 (k0 + k * 2))) (k * 2 + 1) u).1
        clear hx ho hst0
        go_wp2
        go_roundw
        case rel => exact ⟨k + 1, by omega, by go_num, by go_num, by rw [← spliceM (by simp) HF.out hlt (seqM_2a hlt) (seqM_2b hlt), ← intsM_set, ← intsM_set]; exact HST.out _, (HX.out.setCell HGB.out HGH.out _).setCell HGB.out HGH.out _⟩
        case measure => simp [intOf]; omega
      · go_wp2
        go_ret
        obtain rfl : k = n := by omega
        rw [List.take_of_length_le (by simp), List.drop_eq_nil_of_le (by rw [HF.out]; exact Nat.le_refl _), List.append_nil] at ho
        exact ⟨rfl, ho, hx⟩
theorem u_mark_PebbleMoveS (es : List (Int × Int)) (v : Value) (k0 : Int) (w : World) (lo hi : Nat) (h : Own_PebbleMoveS w lo hi v es) (_hh : hi ≤ w.heap.size) (b : Bd_PebbleMoveS es) (hk0 : 0 ≤ k0) (hk1 : k0 ≤ 1000000000) :
    Calls Try.prog 20 #[v, .int .i64 k0] w (fun e w' => e = .returned (.int .i64 (k0 + len_PebbleMoveS es)) ∧ Mk_PebbleMoveS w' v es k0 ∧ Touch lo hi w w') := by
  refine (l_markPebbleMoveS es v k0 w lo h.1 b hk0 hk1 hi h.2).mono ?_
  rintro e w' ⟨rfl, ho, ht⟩
  exact ⟨rfl, OwnN.rd ho, ht⟩
set_option maxRecDepth 100000 in
set_option maxHeartbeats 800000 in
theorem l_heldPebbleMoveS (n : Nat) (v : Value) (k0 : Int) (w : World) (h : RdN w 2 v n (seqI k0 (n * 2))) (hl : n ≤ 1048576) (hk0 : 0 ≤ k0) (hk1 : k0 ≤ 1000000000) :
    Calls Try.prog 21 #[v, .int .i64 k0] w (RetX w (.int .i64 (k0 + n * 2))) := by
  obtain ⟨A, c, rfl, h1, h2, ha⟩ := h.form
  clear h
  go_enter Try.func21, Try.ntmps21
  go_wp2
  go_loopw [5, 1] (fun i m wr => ∃ k : Nat, k ≤ n ∧ i = .int .i64 k ∧ m = .int .i64 (k0 + k * 2) ∧ Ext w wr) (fun i _ _ => n - (intOf i).toNat)
  case atStart => exact ⟨0, by omega, rfl, by simp, Ext.refl _⟩
  case round =>
    obtain ⟨k, hk, rfl, rfl, hx⟩ := hrel
    have HX := hd hx
    clear hx
    by_cases hlt : k < n
    · obtain ⟨a, rfl, d0⟩ := RdN.at_ ha (seqM_2a hlt)
      obtain ⟨a', ha', d1⟩ := RdN.at_ ha (seqM_2b hlt)
      cases ha'
      have d2 := off_cell d1
      have c0 := HX.out.cell d0
      have c1 := HX.out.cell d2
      clear d0 d1 d2
      go_wp2
      go_roundw
      case rel => exact ⟨k + 1, by omega, by go_num, by go_num, HX.out⟩
      case measure => simp [intOf]; omega
    · go_wp2
      go_ret
      obtain rfl : k = n := by omega
      exact RetX.mk rfl HX.out
theorem u_held_PebbleMoveS (es : List (Int × Int)) (v : Value) (k0 : Int) (w : World) (h : Mk_PebbleMoveS w v es k0) (b : Bd_PebbleMoveS es) (hk0 : 0 ≤ k0) (hk1 : k0 ≤ 1000000000) : Calls Try.prog 21 #[v, .int .i64 k0] w (RetX w (.int .i64 (k0 + len_PebbleMoveS es))) :=
  l_heldPebbleMoveS es.length v k0 w h b hk0 hk1
theorem info_mv : (Try.prog.info? 52).map (fun i => (i.zero, i.size, i.bytes)) = some (some (.agg #[.int .i64 0, .int .i64 0]), 2, 16) := by kernel_rfl
theorem flat2_one (es : List (Int × Int)) : ∀ u ∈ ints (flat2 es), u.oneCell' = true := ints_one _
section
variable {ops : Array Oper} {rest : List Oper} {o : Oper} {a : Act} {Q : Exit → Act → World → Prop}
/-- append(v, m), moves. -/
theorem appM (w : World) {nb : Nat} {v : Value} {es : List (Int × Int)} {base : Nat} (x y : Int) (hown : OwnM w base v es) (hgd : o.guard = none) (s xx : Operand)
    (ho : o.op = .call { callee := .builtin .append, args := #[s, xx], argTypes := #[34, 34] })
    (hs : a.eval s = v) (hx : a.eval xx = .slice (some ⟨nb, 0, none⟩) 1 1) (hnb : w.heap.size = nb) (hn : es.length + 1 ≤ 536870912) (hbase : base ≤ w.heap.size)
    (h : ∀ v' w', OwnM w' base v' (es ++ [(x, y)]) → (w.alloc (.cells #[.int .i64 x, .int .i64 y] 52)).grownBy w' v.ownBlock → (v'.ownBlock = v.ownBlock ∨ v'.ownBlock = some (w.heap.size + 1)) → wpList Try.prog ops Q rest (a.put o.dst v') w') :
    wpList Try.prog ops Q (o :: rest) a (w.alloc (.cells #[.int .i64 x, .int .i64 y] 52)) := by
  subst hnb
  refine wpList_plain hgd fun K hK => wp_app _ s xx 34 ho base 52 Try.underlying34 info_mv (by decide) rfl (by decide) (own_ext hown (Ext.new w _)) (rd_blk (s := 2) (us := ints (flat2 [(x, y)])) (blk_new _ rfl) rfl rfl (by unfold maxLen; omega)) (ints_one _) hs hx (by omega) (by simp; omega) fun v' w' h1 h2 h3 => hK _ _ (h v' w' ?_ h2 (by simpa using h3))
  unfold OwnM OwnP OwnN
  rw [flat2_append, ints_append, List.length_append]
  exact h1
end
end Go.Proofs.Ytapgpjhogdmjbaa
