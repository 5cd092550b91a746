/-
  Chapter 27: CycleGraph and LadderGraph of both sides. No condition.
-/
import Derived.Test.YtegaablidoibdaaChgH
import Derived.Test.YtegaablidoibdaaApp2
namespace Go.Proofs.Ytegaablidoibdaa
open Go.RowKit

section
variable {ops : Array Oper} {rest : List Oper} {o : Oper} {a : Act} {Q : Exit → Act → World → Prop}
theorem rdN_blk {w : World} {b : Nat} {s m : Nat} {xs : List Int} {cs : Array Value} {e : TypeId} (h : w.heap[b]? = some (.cells cs e)) (hc : cs.toList = ints xs) (hl : xs.length = m * s) (hm : m ≤ maxLen) : RdN w s (.slice (some ⟨b, 0, none⟩) m m) m xs := by
  refine ⟨by simpa using hl, some ⟨b, 0, none⟩, m, rfl, Nat.le_refl _, hm, fun j x hx => ⟨_, rfl, ?_⟩⟩
  refine World.news_of_block h j x ?_
  rw [hc]; exact hx
/-- append of pairs that lie in a block of their own. -/
theorem appPs (w : World) {nb m : Nat} {v : Value} {es fs : List (Int × Int)} {cs : Array Value} {base : Nat} (hown : OwnP w base 89 v es) (hgd : o.guard = none) (s x : Operand)
    (ho : o.op = .call { callee := .builtin .append, args := #[s, x], argTypes := #[41, 41] })
    (hs : a.eval s = v) (hx : a.eval x = .slice (some ⟨nb, 0, none⟩) m m) (hnb : w.heap.size = nb) (hcs : cs.toList = ints (flat2 fs)) (hm : fs.length = m) (hn : es.length + m ≤ 536870912) (hbase : base ≤ w.heap.size)
    (h : ∀ v' w', OwnP w' base 89 v' (es ++ fs) → (w.alloc (.cells cs 89)).grownBy w' v.ownBlock → wpList Try.prog ops Q rest (a.put o.dst v') w') :
    wpList Try.prog ops Q (o :: rest) a (w.alloc (.cells cs 89)) := by
  subst hnb
  subst hm
  refine wpList_plain hgd fun K hK => wp_app _ s x 41 ho base 89 Try.underlying41 info_pair (by decide) rfl (by decide) (own_ext hown (Ext.new w _)) (rdN_blk (s := 2) (xs := flat2 fs) (blk_new _ rfl) hcs (by simp) (by unfold maxLen; omega)) (ints_one _) hs hx (by omega) (by simp; omega) fun v' w' h1 h2 _ => hK _ _ (h v' w' ?_ h2)
  unfold OwnP OwnN
  rw [flat2_append, ints_append, List.length_append]
  exact h1
end
theorem made1 (n : Nat) : (madeCells (Value.int .i64 0).cells (n * 1)).toList = ints (List.replicate n 0) := by
  apply List.ext_getElem
  · simp [madeCells]
  intro j h1 h2
  simp only [ints, madeCells, Array.toList_map, Array.toList_range, List.getElem_map, List.getElem_range, List.getElem_replicate]
  simp [Value.cells, Nat.mod_one]
/-- make([]int, n). -/
theorem mkI {ops : Array Oper} {rest : List Oper} {o : Oper} {a : Act} {Q : Exit → Act → World → Prop} (w : World) {nb n : Nat} (hgd : o.guard = none) (l c : Operand) (hop : o.op = .makeSlice 28 l c) (hl : a.eval l = .int .i64 n) (hc : a.eval c = .int .i64 n) (hn : n ≤ 1073741824) (hnb : w.heap.size = nb)
    (h : ∀ w', OwnI w' nb 3 (.slice (some ⟨nb, 0, none⟩) n n) (List.replicate n 0) → Ext w w' → wpList Try.prog ops Q rest (a.put o.dst (.slice (some ⟨nb, 0, none⟩) n n)) w') :
    wpList Try.prog ops Q (o :: rest) a w := by
  subst hnb
  obtain ⟨i0, hi, hz0, hz1, hz2⟩ := info_parts info_int
  refine wpList_make_full _ hgd l c 28 hop w.heap.size 3 i0 (.int .i64 0) 1 Try.underlying28 hi hz0 hz1 _ _ _ _ n hl hc rfl rfl (by rw [hz2]; omega) (by unfold maxLen; omega) (Nat.le_refl _) fun w1 hown1 hgrow1 => h w1 ?_ ((Ext.refl w).grown hgrow1 (Nat.le_refl _) (by simp))
  rw [made1] at hown1
  unfold OwnI
  rw [List.length_replicate]
  exact hown1
theorem ownI_store {w : World} {base : Nat} {e : TypeId} {g n cap : Nat} {xs : List Int} (h : OwnI w base e (.slice (some ⟨g, 0, none⟩) n cap) xs) (hn : xs.length = n) {k : Nat} (hk : k < n) :
    (∃ u0, w.cell? ⟨g, k, none⟩ = some u0) ∧ w.frozen? ⟨g, k, none⟩ = false ∧ Hid (∀ x, OwnI (w.setCell ⟨g, k, none⟩ (.int .i64 x)) base e (.slice (some ⟨g, 0, none⟩) n cap) (xs.set k x)) := by
  subst hn
  obtain ⟨h1, h2, h3⟩ := own_store h hk
  refine ⟨h1, h2, hd fun x => ?_⟩
  have := h3.out (.int .i64 x)
  unfold OwnI
  rw [← ints_set, List.length_set]
  exact this
theorem touch_b3 (W : World) (b : Nat) (u0 u1 u2 : Value) : Touch b (b + 1) W (((W.setCell ⟨b, 0, none⟩ u0).setCell ⟨b, 1, none⟩ u1).setCell ⟨b, 2, none⟩ u2) := by
  refine Touch.setCell (Touch.setCell (Touch.setCell (Touch.refl _ _ _) ?_ ?_ _) ?_ ?_ _) ?_ ?_ _ <;> simp
theorem ext_b3 {w0 W : World} {b : Nat} {u0 u1 u2 : Value} (h : Ext w0 W) (hb : w0.heap.size ≤ b) : Ext w0 (((W.setCell ⟨b, 0, none⟩ u0).setCell ⟨b, 1, none⟩ u1).setCell ⟨b, 2, none⟩ u2) := by
  refine Below.setCell (Below.setCell (Below.setCell h ?_ _) ?_ _) ?_ _ <;> exact hb
theorem ext_b1 {w0 W : World} {b k : Nat} {u : Value} (h : Ext w0 W) (hb : w0.heap.size ≤ b) : Ext w0 (W.setCell ⟨b, k, none⟩ u) := Below.setCell h hb _
/-- The charges of a new graph. -/
def chgs (n : Nat) (odd : Bool) : List Int := if odd then (List.replicate n 0).set 0 1 else List.replicate n 0
@[simp] theorem length_chgs (n : Nat) (odd : Bool) : (chgs n odd).length = n := by unfold chgs; split <;> simp
set_option maxRecDepth 100000 in
set_option maxHeartbeats 800000 in
theorem s_l27Charge (n : Nat) (A : Option Addr) (m c : Nat) (odd : Bool) (w : World) (hn : 1 ≤ n ∧ n ≤ 8) :
    Calls Try.prog 83 #[.int .i64 n, .slice A m c, .bool odd] w (fun e w' => ∃ vc, e = .returned (.agg #[.int .i64 n, .slice A m c, vc]) ∧ OwnI w' w.heap.size 3 vc (chgs n odd) ∧ (∀ b, vc.ownBlock = some b → b < w'.heap.size) ∧ Ext w w') := by
  obtain ⟨hn1, hn2⟩ := hn
  have HN := hd hn1
  cases odd
  all_goals
    go_enter Try.func83, Try.ntmps83
    go_wp2_with (at_make; ((refine mkI (n := n) (nb := w.heap.size + 1) (w.alloc (.cells #[.int .i64 0, .slice none 0 0, .slice none 0 0] 43)) rfl _ _ rfl rfl rfl (by omega) (by simp) ?_; intro w1 hown1 hx1; have HB := hd (hx1.heap (blk_new (w := w) (.cells #[.int .i64 0, .slice none 0 0, .slice none 0 0] 43) rfl)); obtain ⟨c0, c1, c2⟩ := blk3 HB.out; obtain ⟨f0, f1, f2⟩ := blk3f HB.out; have hs : w.heap.size < w1.heap.size := Nat.lt_of_lt_of_le (by simp) hx1.size; obtain ⟨⟨u0, d0⟩, d1, HST⟩ := ownI_store hown1 (by simp) (k := 0) (by omega); have hs2 : w.heap.size + 1 < w1.heap.size := (own_blocks hown1 _ rfl).2; have HO := hd hown1; have HX := hd hx1.box; clear hown1 hx1)))
  · refine bodyPost_ret (v := .agg #[.int .i64 n, .slice A m c, .slice (some ⟨w.heap.size + 1, 0, none⟩) n n]) (by simp [results, Try.results83, go_sem, hs, c0, c1, c2]) rfl ⟨_, rfl, ?_, ?_, ?_⟩
    · exact own_rebase (own_ext (own_touch HO.out (touch_b3 _ _ _ _ _) (fun b hb => by cases hb; simp)) (Ext.new _ _)) (by omega)
    · intro b hb; cases hb; simp; omega
    · exact (ext_b3 HX.out (Nat.le_refl _)).alloc _
  · refine bodyPost_ret (v := .agg #[.int .i64 n, .slice A m c, .slice (some ⟨w.heap.size + 1, 0, none⟩) n n]) (by simp [results, Try.results83, go_sem, hs, c0, c1, c2]) rfl ⟨_, rfl, ?_, ?_, ?_⟩
    · exact own_rebase (own_ext (own_touch (HST.out 1) (touch_b3 _ _ _ _ _) (fun b hb => by cases hb; simp)) (Ext.new _ _)) (by omega)
    · intro b hb; cases hb; simp; omega
    · exact (ext_b3 (ext_b1 HX.out (by omega)) (Nat.le_refl _)).alloc _
set_option maxRecDepth 100000 in
set_option maxHeartbeats 800000 in
theorem i_chargedGraph (n : Nat) (A : Option Addr) (m c : Nat) (odd : Bool) (w : World) (hn : 1 ≤ n ∧ n ≤ 8) :
    Calls Try.prog 84 #[.int .i64 n, .slice A m c, .bool odd] w (fun e w' => ∃ vc, e = .returned (.tuple #[.agg #[.int .i64 n, .slice A m c, vc], .bool true]) ∧ OwnI w' w.heap.size 3 vc (chgs n odd) ∧ (∀ b, vc.ownBlock = some b → b < w'.heap.size) ∧ Ext w w') := by
  obtain ⟨hn1, hn2⟩ := hn
  have HN := hd hn1
  cases odd
  all_goals
    go_enter Try.func84, Try.ntmps84
    go_wp2_with (at_make; ((refine mkI (n := n) (nb := w.heap.size + 1) (w.alloc (.cells #[.int .i64 0, .slice none 0 0, .slice none 0 0] 43)) rfl _ _ rfl rfl rfl (by omega) (by simp) ?_; intro w1 hown1 hx1; have HB := hd (hx1.heap (blk_new (w := w) (.cells #[.int .i64 0, .slice none 0 0, .slice none 0 0] 43) rfl)); obtain ⟨c0, c1, c2⟩ := blk3 HB.out; obtain ⟨f0, f1, f2⟩ := blk3f HB.out; have hs : w.heap.size < w1.heap.size := Nat.lt_of_lt_of_le (by simp) hx1.size; obtain ⟨⟨u0, d0⟩, d1, HST⟩ := ownI_store hown1 (by simp) (k := 0) (by omega); have hs2 : w.heap.size + 1 < w1.heap.size := (own_blocks hown1 _ rfl).2; have HO := hd hown1; have HX := hd hx1.box; clear hown1 hx1)))
  · refine bodyPost_ret (v := .tuple #[.agg #[.int .i64 n, .slice A m c, .slice (some ⟨w.heap.size + 1, 0, none⟩) n n], .bool true]) (by simp [results, Try.results84, go_sem, hs, c0, c1, c2]) rfl ⟨_, rfl, ?_, ?_, ?_⟩
    · exact own_rebase (own_ext (own_touch HO.out (touch_b3 _ _ _ _ _) (fun b hb => by cases hb; simp)) (Ext.new _ _)) (by omega)
    · intro b hb; cases hb; simp; omega
    · exact (ext_b3 HX.out (Nat.le_refl _)).alloc _
  · refine bodyPost_ret (v := .tuple #[.agg #[.int .i64 n, .slice A m c, .slice (some ⟨w.heap.size + 1, 0, none⟩) n n], .bool true]) (by simp [results, Try.results84, go_sem, hs, c0, c1, c2]) rfl ⟨_, rfl, ?_, ?_, ?_⟩
    · exact own_rebase (own_ext (own_touch (HST.out 1) (touch_b3 _ _ _ _ _) (fun b hb => by cases hb; simp)) (Ext.new _ _)) (by omega)
    · intro b hb; cases hb; simp; omega
    · exact (ext_b3 (ext_b1 HX.out (by omega)) (Nat.le_refl _)).alloc _
/-- (0, 1), (1, 2), .. -/
def rngE (k : Nat) : List (Int × Int) := (List.range k).map fun j : Nat => ((j : Int), (j : Int) + 1)
theorem rngE_succ (k : Nat) : rngE (k + 1) = rngE k ++ [((k : Int), (k : Int) + 1)] := by simp [rngE, List.range_succ]
@[simp] theorem length_rngE (k : Nat) : (rngE k).length = k := by simp [rngE]
def cycG (n : Int) (odd : Bool) : Chg := if inB n 3 8 then ⟨n, rngE (n.toNat - 1) ++ [(0, n - 1)], chgs n.toNat odd⟩ else ⟨0, [], []⟩
/-- A call returns a new graph and b, and leaves all old memory alone. -/
def RetC2 (w : World) (g : Chg) (b : Bool) : Ending → World → Prop := fun en w' => ∃ v, en = .returned (.tuple #[v, .bool b]) ∧ OwnC w' w.heap.size w'.heap.size v g ∧ Ext w w'
theorem ext_appP {w wr w' : World} {v : Value} {o o' : Obj} {e : TypeId} {es : List (Int × Int)} (h : Ext (w.alloc o) wr) (hg : (wr.alloc o').grownBy w' v.ownBlock) (ho : OwnP wr (w.heap.size + 1) e v es) : Ext (w.alloc o) w' :=
  ext_app h hg fun g hg' => by have := (own_blocks ho g hg').1; simpa using this
theorem ownP_emp {W : World} {base b : Nat} {e : TypeId} (hb : W.heap.size = b) (h : base ≤ b) : OwnP (W.alloc (.cells #[] e)) base e (.slice (some ⟨b, 0, none⟩) 0 0) [] := by
  subst hb
  exact own_lit W base e 2 #[] 0 h (Nat.zero_le _) rfl
theorem ownC_zero {w : World} {lo hi : Nat} : OwnC w lo hi (.agg #[.int .i64 0, .slice none 0 0, .slice none 0 0]) ⟨0, [], []⟩ :=
  ⟨_, _, rfl, own_nil _ _ _ _, own_nil _ _ _ _, (fun b h => by cases h), (fun b h => by cases h)⟩
set_option maxRecDepth 100000 in
set_option maxHeartbeats 1600000 in
theorem s_CycleGraph (n : Int) (odd : Bool) (w : World) : Calls Try.prog 30 #[.int .i64 n, .bool odd] w (RetC2 w (cycG n odd) (inB n 3 8)) := by
  obtain ⟨b, hb⟩ : ∃ b, inB n 3 8 = b := ⟨_, rfl⟩
  have HB := hd hb
  cases b
  · clear hb
    go_enter Try.func30, Try.ntmps30
    go_wp2_with (go_at_call 70; refine (rt (s_l1In _ _ _ _) HB).mono ?_; rintro e w1 ⟨rfl, rfl⟩)
    refine bodyPost_ret (v := .tuple #[.agg #[.int .i64 0, .slice none 0 0, .slice none 0 0], .bool false]) (by simp [results, Try.results30, go_sem]) rfl ⟨_, by rw [HB.out], ?_, ?_⟩
    · unfold cycG; rw [HB.out]; exact ownC_zero
    · exact Ext.new _ _
  · have hn := inB_iff.1 hb
    clear hb
    obtain ⟨m, rfl⟩ := Int.eq_ofNat_of_zero_le (show 0 ≤ n by omega)
    obtain ⟨hn1, hn2⟩ := hn
    go_enter Try.func30, Try.ntmps30
    go_wp2_with fail
    refine (rt (s_l1In _ _ _ _) HB).mono ?_
    rintro e w1 ⟨rfl, rfl⟩
    go_wp2
    go_loopw [7, 6] (fun i v' wr => ∃ k : Nat, k + 1 ≤ m ∧ i = .int .i64 k ∧ OwnP wr (w.heap.size + 1) 89 v' (rngE k) ∧ Ext (w.alloc (.cells #[.int .i64 0, .slice none 0 0, .slice none 0 0] 43)) wr) (fun i _ _ => m - (intOf i).toNat)
    case atStart => exact ⟨0, by omega, rfl, ownP_emp (by simp) (by omega), Ext.new _ _⟩
    case round =>
      obtain ⟨k, hk, rfl, ho, hx⟩ := hrel
      have HO := hd ho
      have HX := hd hx
      have hxs : w.heap.size + 1 ≤ wr.heap.size := by have := hx.size; simpa using this
      have hal := length_rngE k
      clear ho hx
      by_cases hlt : k + 1 < m
      · go_wp2_with (at_builtin; refine appPs wr (m := 1) (fs := [((k : Int), (k : Int) + 1)]) HO.out rfl _ _ rfl (by rfl) (by rfl) rfl rfl rfl (by omega) hxs ?_; intro v' w1 ho1 hg1)
        go_roundw
        case rel => exact ⟨k + 1, by omega, by go_num, by rw [rngE_succ]; exact ho1, ext_appP HX.out hg1 HO.out⟩
        case measure => simp [intOf]; omega
      · have hkm : k = m - 1 := by omega
        have HK := hd hkm
        clear hkm
        go_wp2_with (at_builtin; refine appPs wr (m := 1) (fs := [(0, (m : Int) - 1)]) HO.out rfl _ _ rfl (by rfl) (by rfl) rfl rfl rfl (by omega) hxs ?_; intro v' w1 ho1 hg1; obtain ⟨A2, c2, rfl, O1⟩ := ho1.form)
        have HX1 := hd (ext_appP HX.out hg1 HO.out)
        clear ho1 hg1
        refine (s_l27Charge m A2 _ c2 odd _ (by omega)).mono ?_
        rintro e w2 ⟨vc, rfl, hc, hcb, hx2⟩
        obtain ⟨A3, c3, rfl, HC⟩ := hc.form
        have HX2 := hd (HX1.out.trans hx2)
        have HE := hd (own_ext O1.out hx2)
        have HCB := hd hcb
        have HS : Hid (w1.heap.size ≤ w2.heap.size) := hd hx2.size
        obtain ⟨c0, c1, c2'⟩ := blk3 (HX2.out.heap (blk_new _ rfl))
        obtain ⟨f0, f1, f2⟩ := blk3f (HX2.out.heap (blk_new _ rfl))
        clear hc hcb hx2
        go_wp2
        refine bodyPost_ret (v := .tuple #[.agg #[.int .i64 m, .slice A2 (rngE k ++ [((0 : Int), (m : Int) - 1)]).length c2, .slice A3 (chgs m odd).length c3], .bool true]) (by simp [results, Try.results30, go_sem, c0, c1, c2']) rfl ⟨_, by rw [HB.out], ?_, ext_b3 HX2.out.box (Nat.le_refl _)⟩
        unfold cycG
        rw [HB.out, if_pos rfl, Int.toNat_natCast, ← HK.out]
        refine ⟨_, _, rfl, own_rebase (own_touch HE.out (touch_b3 _ _ _ _ _) fun b hb => ?_) (by omega), own_rebase (own_touch HC.out (touch_b3 _ _ _ _ _) fun b hb => ?_) ?_, fun b hb => ?_, fun b hb => ?_⟩
        · have := (own_blocks HE.out b hb).1; omega
        · have := (own_blocks HC.out b hb).1; have := HX1.out.box.size; have := HX1.out.size; simp at this; omega
        · have := HX1.out.box.size; exact this
        · have := (own_blocks O1.out b hb).2; have := HS.out; simp; omega
        · have := HCB.out b hb; simpa [size_setCell] using this
set_option maxRecDepth 100000 in
set_option maxHeartbeats 1600000 in
theorem i_CycleGraph (n : Int) (odd : Bool) (w : World) : Calls Try.prog 31 #[.int .i64 n, .bool odd] w (RetC2 w (cycG n odd) (inB n 3 8)) := by
  obtain ⟨b, hb⟩ : ∃ b, inB n 3 8 = b := ⟨_, rfl⟩
  have HB := hd hb
  cases b
  · clear hb
    go_enter Try.func31, Try.ntmps31
    go_wp2_with (go_at_call 75; refine (rt (i_within _ _ _ _) HB).mono ?_; rintro e w1 ⟨rfl, rfl⟩)
    refine bodyPost_ret (v := .tuple #[.agg #[.int .i64 0, .slice none 0 0, .slice none 0 0], .bool false]) (by simp [results, Try.results31, go_sem]) rfl ⟨_, by rw [HB.out], ?_, ?_⟩
    · unfold cycG; rw [HB.out]; exact ownC_zero
    · exact Ext.new _ _
  · have hn := inB_iff.1 hb
    clear hb
    obtain ⟨m, rfl⟩ := Int.eq_ofNat_of_zero_le (show 0 ≤ n by omega)
    obtain ⟨hn1, hn2⟩ := hn
    go_enter Try.func31, Try.ntmps31
    go_wp2_with fail
    refine (rt (i_within _ _ _ _) HB).mono ?_
    rintro e w1 ⟨rfl, rfl⟩
    go_wp2
    go_loopw [7, 6] (fun i v' wr => ∃ k : Nat, k + 1 ≤ m ∧ i = .int .i64 ((k : Int) + 1) ∧ OwnP wr (w.heap.size + 1) 89 v' (rngE k) ∧ Ext (w.alloc (.cells #[.int .i64 0, .slice none 0 0, .slice none 0 0] 43)) wr) (fun i _ _ => m + 1 - (intOf i).toNat)
    case atStart => exact ⟨0, by omega, rfl, own_nil _ _ _ _, Ext.refl _⟩
    case round =>
      obtain ⟨k, hk, rfl, ho, hx⟩ := hrel
      have HO := hd ho
      have HX := hd hx
      have hxs : w.heap.size + 1 ≤ wr.heap.size := by have := hx.size; simpa using this
      have hal := length_rngE k
      clear ho hx
      by_cases hlt : k + 1 < m
      · go_wp2_with (at_builtin; refine appPs wr (m := 1) (fs := [((k : Int), (k : Int) + 1)]) HO.out rfl _ _ rfl (by rfl) (by rfl) rfl rfl rfl (by omega) hxs ?_; intro v' w1 ho1 hg1)
        go_roundw
        case rel => exact ⟨k + 1, by omega, by go_num, by rw [rngE_succ]; exact ho1, ext_appP HX.out hg1 HO.out⟩
        case measure => simp [intOf]; omega
      · have hkm : k = m - 1 := by omega
        have HK := hd hkm
        clear hkm
        go_wp2_with (at_builtin; refine appPs wr (m := 1) (fs := [(0, (m : Int) - 1)]) HO.out rfl _ _ rfl (by rfl) (by rfl) rfl rfl rfl (by omega) hxs ?_; intro v' w1 ho1 hg1; obtain ⟨A2, c2, rfl, O1⟩ := ho1.form)
        have HX1 := hd (ext_appP HX.out hg1 HO.out)
        clear ho1 hg1
        refine (i_chargedGraph m A2 _ c2 odd _ (by omega)).mono ?_
        rintro e w2 ⟨vc, rfl, hc, hcb, hx2⟩
        obtain ⟨A3, c3, rfl, HC⟩ := hc.form
        have HX2 := hd (HX1.out.trans hx2)
        have HE := hd (own_ext O1.out hx2)
        have HCB := hd hcb
        have HS : Hid (w1.heap.size ≤ w2.heap.size) := hd hx2.size
        obtain ⟨c0, c1, c2'⟩ := blk3 (HX2.out.heap (blk_new _ rfl))
        obtain ⟨f0, f1, f2⟩ := blk3f (HX2.out.heap (blk_new _ rfl))
        clear hc hcb hx2
        go_wp2
        refine bodyPost_ret (v := .tuple #[.agg #[.int .i64 m, .slice A2 (rngE k ++ [((0 : Int), (m : Int) - 1)]).length c2, .slice A3 (chgs m odd).length c3], .bool true]) (by simp [results, Try.results31, go_sem, c0, c1, c2']) rfl ⟨_, by rw [HB.out], ?_, ext_b3 HX2.out.box (Nat.le_refl _)⟩
        unfold cycG
        rw [HB.out, if_pos rfl, Int.toNat_natCast, ← HK.out]
        refine ⟨_, _, rfl, own_rebase (own_touch HE.out (touch_b3 _ _ _ _ _) fun b hb => ?_) (by omega), own_rebase (own_touch HC.out (touch_b3 _ _ _ _ _) fun b hb => ?_) ?_, fun b hb => ?_, fun b hb => ?_⟩
        · have := (own_blocks HE.out b hb).1; omega
        · have := (own_blocks HC.out b hb).1; have := HX1.out.box.size; have := HX1.out.size; simp at this; omega
        · have := HX1.out.box.size; exact this
        · have := (own_blocks O1.out b hb).2; have := HS.out; simp; omega
        · have := HCB.out b hb; simpa [size_setCell] using this
end Go.Proofs.Ytegaablidoibdaa
