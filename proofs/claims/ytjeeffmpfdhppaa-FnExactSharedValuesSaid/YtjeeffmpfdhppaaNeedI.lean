/-
  Which gates are needed, their variables, and whether all of them are shared: the program's side. Condition: a valid circuit.
-/
import Derived.Test.YtjeeffmpfdhppaaBack
import Derived.Test.YtjeeffmpfdhppaaSort
import Derived.Test.YtjeeffmpfdhppaaSharedI
namespace Go.Proofs.Ytjeeffmpfdhppaa
open Go.RowKit Go.Shelf
attribute [local go_sem] Oper.semAt_some
def nst (s : List Bool × List Int) (x : Nat × Gat) : List Bool × List Int := if s.1.getD x.1 false then (mark1 s.1 x.2, s.2 ++ [(x.1 : Int)]) else s
def nf (gs : List Gat) {n : Int} {N : Nat} (pre : List (BwA n N)) : List Bool × List Int := pre.foldl (fun s x => nst s x.1) (needU gs 0, [])
theorem nf_snoc (gs : List Gat) {n : Int} {N : Nat} (pre : List (BwA n N)) (x : BwA n N) : nf gs (pre ++ [x]) = nst (nf gs pre) x.1 := by simp [nf]
theorem nst_len (s : List Bool × List Int) (x : Nat × Gat) : (nst s x).1.length = s.1.length ∧ (nst s x).2.length ≤ s.2.length + 1 := by
  unfold nst
  split
  · exact ⟨mark1_len _ _, by simp⟩
  · exact ⟨rfl, by omega⟩
theorem foldN_len {n : Int} {N : Nat} : ∀ (pre : List (BwA n N)) (s : List Bool × List Int), (pre.foldl (fun s x => nst s x.1) s).1.length = s.1.length ∧ (pre.foldl (fun s x => nst s x.1) s).2.length ≤ s.2.length + pre.length
  | [], s => ⟨rfl, by simp⟩
  | x :: r, s => by
    have ih := foldN_len r (nst s x.1)
    have h := nst_len s x.1
    rw [List.foldl_cons]
    exact ⟨ih.1.trans h.1, by rw [List.length_cons]; omega⟩
theorem nf_len (gs : List Gat) {n : Int} {N : Nat} (pre : List (BwA n N)) : (nf gs pre).1.length = gs.length ∧ (nf gs pre).2.length ≤ pre.length := by
  have := foldN_len pre (needU gs 0, [])
  refine ⟨this.1.trans (needU_len gs 0), Nat.le_trans this.2 (Nat.le_of_eq ?_)⟩
  show 0 + pre.length = pre.length
  omega
theorem nf_bw {n : Int} {gs : List Gat} (hg : circB n gs = true) : ∀ m, nf gs (bwL hg m) = (needU gs m, outN gs m)
  | 0 => rfl
  | m + 1 => by
    rw [bwL_succ, nf_snoc, nf_bw hg m]
    unfold nst bw
    rw [needU_succ, outN]
    dsimp only
    split <;> rfl
/-- A block of another element type is not a slice's own. -/
theorem row_ne {W : World} {b : Nat} {cs : Array Value} {t e : TypeId} {fr : Nat × Nat} (hb : W.heap[b]? = some (.cells cs t fr)) (hte : t ≠ e) {base size k : Nat} {v : Value} {xs : List Value} (hr : W.ownsRow base e size v k xs) : some b ≠ v.ownBlock := by
  rcases hr.2 with ⟨rfl, _⟩ | ⟨g, cap, cur, rfl, _, hgb, _⟩
  · simp [Value.ownBlock]
  · intro e'
    obtain rfl : b = g := by simpa [Value.ownBlock] using e'
    have := hb.symm.trans hgb
    simp at this
    exact hte this.2.1
theorem row_cells {W : World} {base size k : Nat} {e : TypeId} {v : Value} {xs : List Value} (hr : W.ownsRow base e size v k xs) : ∀ j (o : Obj), v.ownBlock = some j → W.heap[j]? = some o → o.isCells = true := by
  intro j o hj ho
  rcases hr.2 with ⟨rfl, _⟩ | ⟨g, cap, cur, rfl, _, hgb, _⟩
  · simp [Value.ownBlock] at hj
  · obtain rfl : g = j := by simpa [Value.ownBlock] using hj
    rw [hgb] at ho; cases ho; rfl
theorem row_kept {w w' : World} {base size k : Nat} {e : TypeId} {v : Value} {xs : List Value} {row : Option Nat} (h : w.ownsRow base e size v k xs) (hg : w.grownBy w' row) (hr : ∀ r, row = some r → ∃ o : Obj, w.heap[r]? = some o ∧ o.isCells = false) : w'.ownsRow base e size v k xs := by
  refine h.kept hg ?_
  rcases h.2 with ⟨rfl, _⟩ | ⟨g, cap, cur, rfl, _, hgb, _⟩
  · exact .inl rfl
  · refine .inr fun e' => ?_
    obtain ⟨_, ho, hc⟩ := hr g (by simpa [Value.ownBlock] using e'.symm)
    rw [hgb] at ho; cases ho; cases hc
theorem ext_keeps {w w' : World} (h : Ext w w') : KeepsOthers w w' := ⟨h.size, fun k _ hk _ => (h.block k (Array.getElem?_eq_some_iff.1 hk).1).trans hk⟩
theorem rows_ne {W : World} {b1 b2 s1 s2 k1 k2 : Nat} {e1 e2 : TypeId} {v1 v2 : Value} {x1 x2 : List Value} (hte : e1 ≠ e2) (h1 : W.ownsRow b1 e1 s1 v1 k1 x1) (h2 : W.ownsRow b2 e2 s2 v2 k2 x2) : v1.ownBlock = none ∨ v1.ownBlock ≠ v2.ownBlock := by
  rcases h1.2 with ⟨rfl, _⟩ | ⟨g, cap, cur, rfl, _, hgb, _⟩
  · exact .inl rfl
  · exact .inr fun e => row_ne hgb hte h2 (by rw [← e]; rfl)
/-- What an append to the box of the numbers, and the store behind it, leave. -/
theorem app_facts {w W w2 : World} {B Bx : Nat} {S v v' u x : Value} {cs : Array Value} {L : List Bool} {out : List Int} {i : Int} (bIs : Boxed W B 28 S) (oIs : OwnB W w.heap.size 4 S L) (bOut : Boxed W (B + 1) 45 v) (oOut : OwnI W w.heap.size 3 v out)
    (hX : Ext w W) (hB : w.heap.size ≤ B + 1) (hbx : W.heap[Bx]? = some (.cells cs 82 (0, 0))) (bS : Boxed W (B + 1 + 1) 33 x) (hu : u = .int .i64 i)
    (hown2 : w2.ownsRow w.heap.size 3 1 v' (out.length + 1) (ints out ++ [u])) (hg2 : (W.alloc (.cells #[u] 3)).grownBy w2 v.ownBlock) :
    Boxed w2 (B + 1) 45 v ∧ Boxed (w2.setCell ⟨B + 1, 0, none⟩ v') (B + 1) 45 v' ∧ Hid (OwnI (w2.setCell ⟨B + 1, 0, none⟩ v') w.heap.size 3 v' (out ++ [i])) ∧ Hid (KeepsOthers W (w2.setCell ⟨B + 1, 0, none⟩ v')) ∧ Hid (Below w.heap.size W (w2.setCell ⟨B + 1, 0, none⟩ v')) ∧
      Boxed (w2.setCell ⟨B + 1, 0, none⟩ v') B 28 S ∧ Hid (OwnB (w2.setCell ⟨B + 1, 0, none⟩ v') w.heap.size 4 S L) ∧ (w2.setCell ⟨B + 1, 0, none⟩ v').heap[Bx]? = some (.cells cs 82 (0, 0)) ∧ Boxed (w2.setCell ⟨B + 1, 0, none⟩ v') (B + 1 + 1) 33 x := by
  subst hu
  obtain ⟨hv1, hv2, hr2, hk2, hb2⟩ := bOut.appended (by decide) oOut hX.size hB hown2 hg2
  have hs := grownBy_setCell' w2 (B + 1) v'
  have hne : Bx ≠ B + 1 := fun e => by
    subst e
    have := hbx.symm.trans bOut
    simp at this
  have hBx1 : w2.heap[Bx]? = some (.cells cs 82 (0, 0)) := (hg2.block Bx (by have := blk_lt hbx; simp; omega) (row_ne hbx (by decide) oOut)).trans (blk_old hbx)
  have hS1 : Boxed w2 (B + 1 + 1) 33 x := (bS.alloc _).kept hg2 (row_ne bS (by decide) oOut)
  have hI1 : Boxed w2 B 28 S := (bIs.alloc _).kept hg2 (row_ne bIs (by decide) oOut)
  have oI1 : OwnB w2 w.heap.size 4 S L := World.ownsRow.kept (own_ext oIs (Ext.new _ _)) hg2 (rows_ne (by decide) oIs oOut)
  refine ⟨hv1, hv2, hd (by unfold OwnI; rw [ints_snoc, List.length_append]; exact hr2), hd hk2, hd hb2, hI1.other (by omega) _, hd (World.ownsRow.kept oI1 hs (.inr (Ne.symm (row_ne hv1 (by decide) oI1)))), (hs.block Bx (blk_lt hBx1) (by intro e; cases e; exact hne rfl)).trans hBx1, hS1.other (by omega) _⟩
theorem slices_ReverseI (xs : List Int) (v : Value) (w : World) (lo : Nat) (h : OwnI w lo 3 v xs) (hl : xs.length ≤ 1073741824) :
    Calls Try.prog 167 #[v] w (fun e w' => e = .returned (.tuple #[]) ∧ OwnI w' lo 3 v xs.reverse ∧ w.grownBy w' v.ownBlock) := by
  have h0 := h
  rcases h.2 with ⟨rfl, hn⟩ | ⟨g, cap, cur, rfl, hb, hg, hnc, hcm, hcs, ht⟩
  · obtain rfl : xs = [] := List.eq_nil_of_length_eq_zero hn
    refine (sl_Reverse_empty none 0 w).mono ?_
    rintro e w' ⟨rfl, rfl⟩
    exact ⟨rfl, h0, grown_refl _ _⟩
  · have hH : Sort.Holds (Value.int .i64) w g 0 xs.toArray := holds_of_blockI hg (by simpa [ints] using ht)
    refine (sl_Reverse g 0 cap xs w hH (by omega)).mono ?_
    rintro e w' ⟨rfl, q, rfl⟩
    have hc := Lib.ownsRow_putRow (q := q) (k := xs.length) (ys := xs.reverse) h0 (by simp) (Nat.le_refl _)
    rw [show xs.reverse.take xs.length = xs.reverse from List.take_of_length_le (by simp)] at hc
    refine ⟨rfl, by unfold OwnI; rw [List.length_reverse]; exact hc, ?_⟩
    exact ⟨rfl, rfl, rfl, by simp [Sort.putRow, Sort.mapBlock, Sort.ahead], fun k hk hne => by
      have : g ≠ k := fun e => hne (by rw [e]; rfl)
      simp [Sort.putRow, Sort.mapBlock, Sort.ahead, Array.getElem?_modify, this]⟩
theorem i_Backward (A : Option Addr) (m c : Nat) (w : World) : Calls Try.prog 165 #[.slice A m c] w (fun e w' => e = .returned (.func (.func 185) #[] #[.pointer (some ⟨w.heap.size, 0, none⟩)]) ∧ w' = w.alloc (.cells #[.slice A m c] 33)) := by
  go_enter Try.func165, Try.ntmps165
  go_wp2
  go_ret
  exact ⟨rfl, rfl⟩
set_option maxRecDepth 100000 in
set_option maxHeartbeats 6400000 in
theorem i_neededGates (n : Int) (gs : List Gat) (v : Value) (w : World) (h : Rd_GateS w v gs) (hg : circB n gs = true) :
    Calls Try.prog 152 #[v] w (RetI w 3 (needL gs)) := by
  obtain ⟨A, c, rfl, h1, h2, ha⟩ := h.form
  have HR := hd h
  obtain ⟨⟨hn0, hn12⟩, ⟨hl1, hl2⟩, -⟩ := circ_inv hg
  obtain ⟨M, hM⟩ : ∃ M, gs.length = M + 1 := ⟨gs.length - 1, by omega⟩
  have HU0 : Hid (needU gs 0 = (List.replicate (M + 1) false).set M true) := hd (by
    unfold needU setB; rw [hM, show (((M + 1 : Nat) : Int) - 1).toNat = M from by omega])
  have hwr : IntKind.i64.wrap ((M : Int) + 1 - 1) = (M : Int) := by rw [show (M : Int) + 1 - 1 = (M : Int) from by omega]; exact IntWalk.i64_in _ (by omega)
  have HM := hd hM
  have HG := hd hg
  rw [hM] at ha HR h1 hl1 hl2 ⊢
  obtain ⟨i0, hii, hz0, hz1, hz2⟩ := info_parts info_int
  clear h hM hg
  refine (callsIn_wide (n := 8)).1 (callsIn_of_wp_marks Try.func152 rfl trivial ?_ rfl)
  refine (wpIn_wide (n := 8)).2 ?_
  simp only [Try.ntmps152, List.size_toArray, List.length_cons, List.length_nil, Nat.reduceAdd, Nat.reduceSub, Array.replicate_succ, Array.replicate_zero, List.push_toArray, List.append_toArray, List.nil_append, List.cons_append]
  go_wp2_with (first
    | (at_make; refine mkB (n := M + 1) _ rfl _ _ rfl rfl rfl (by omega) ?_; intro w1 hown1 hx1; obtain ⟨⟨u0, hcell⟩, hfr, hst⟩ := ownB_store (k := M) (OwnB.ext hown1 (Ext.new w1 (.cells #[.slice (some ⟨w.heap.size, 0, none⟩) (M + 1) (M + 1)] 28))) List.length_replicate (Nat.lt_succ_self M))
    | (go_at_call 165; refine (i_Backward _ _ _ _).mono ?_; rintro e w' ⟨rfl, rfl⟩))
  have bIs0 := Boxed.new w1 28 (.slice (some ⟨w.heap.size, 0, none⟩) (M + 1) (M + 1))
  have hs1 : w.heap.size < w1.heap.size := (own_blocks hown1 _ rfl).2
  have oIs0 := hst.out true
  rw [← HU0.out] at oIs0
  obtain ⟨W1, hW1⟩ : ∃ W1, (w1.alloc (.cells #[.slice (some ⟨w.heap.size, 0, none⟩) (M + 1) (M + 1)] 28)).setCell ⟨w.heap.size, M, none⟩ (.bool true) = W1 := ⟨_, rfl⟩
  have hz1 : W1.heap.size = w1.heap.size + 1 := by rw [← hW1]; simp
  have bIs1 : Boxed W1 w1.heap.size 28 (.slice (some ⟨w.heap.size, 0, none⟩) (M + 1) (M + 1)) := by
    rw [← hW1]; exact blk_other bIs0 (by show w.heap.size ≠ w1.heap.size; omega)
  have X1 : Ext w W1 := by rw [← hW1]; exact (hx1.alloc _).setCell (Nat.le_refl _) _
  rw [hW1] at oIs0 ⊢
  clear hW1 bIs0 hst hcell hfr hown1 hx1
  have bIs := (bIs1.alloc (.cells #[.slice none 0 0] 45)).alloc (.cells #[.slice A (M + 1) c] 33)
  have bOut := (Boxed.new W1 45 (.slice none 0 0)).alloc (.cells #[.slice A (M + 1) c] 33)
  have bS := Boxed.new (W1.alloc (.cells #[.slice none 0 0] 45)) 33 (.slice A (M + 1) c)
  have X0 := (X1.alloc (.cells #[.slice none 0 0] 45)).alloc (.cells #[.slice A (M + 1) c] 33)
  have oIs : OwnB ((W1.alloc (.cells #[.slice none 0 0] 45)).alloc (.cells #[.slice A (M + 1) c] 33)) w.heap.size 4 (.slice (some ⟨w.heap.size, 0, none⟩) (M + 1) (M + 1)) (needU gs 0) := oIs0.ext ((Ext.new _ _).alloc _)
  have hsz : ((W1.alloc (.cells #[.slice none 0 0] 45)).alloc (.cells #[.slice A (M + 1) c] 33)).heap.size = w1.heap.size + 1 + 1 + 1 := by simp [hz1]
  rw [World.size_alloc] at bS
  rw [hz1] at bOut bS
  obtain ⟨W0, hW0⟩ : ∃ W0, (W1.alloc (.cells #[.slice none 0 0] 45)).alloc (.cells #[.slice A (M + 1) c] 33) = W0 := ⟨_, rfl⟩
  rw [hW0] at bIs bOut bS X0 oIs hsz ⊢
  clear hW0 bIs1 X1 oIs0 hz1
  generalize w1.heap.size = B at *
  refine (wpIn_wide (n := 8)).1 ?_
  refine wpIn_rangeFunc_ownH rfl (by decide) (gf := 185) (lb := #[.pointer (some ⟨B + 1 + 1, 0, none⟩)]) rfl trivial (enters_of Try.func185 (by kernel_rfl) rfl)
    (α := BwA n gs.length) (encs := bwE) (Kp := KpB w.heap.size (B + 1 + 1)) (S := fun ys => ys = bwL HG.out gs.length) (Sp := fun _ => True) (N := gs.length) (w0 := W0)
    (fun l J Jx W hW _ _ hY h0 => bw1_in 7 (by decide) l (B + 1 + 1) n gs HG.out A c w (by rw [HM.out]; exact HR.out) J Jx hY W (X0.trans hW) (by rw [HM.out]; exact (hW.block _ bS.lt).trans bS) h0)
    (fun h k => h.trans' k) (fun W l o o' hl ho hc hwk => ⟨belowK_b (w := W0) (by have := X0.size; exact this) W l o o' hl ho hc hwk, World.putObj_heap_other (by omega)⟩) (Below.refl _ _) (fun _ => rfl)
    (fun pre W => ((Boxed W B 28 (.slice (some ⟨w.heap.size, 0, none⟩) (M + 1) (M + 1)) ∧ OwnB W w.heap.size 4 (.slice (some ⟨w.heap.size, 0, none⟩) (M + 1) (M + 1)) (nf gs pre).1) ∧ (∃ v, Boxed W (B + 1) 45 v ∧ OwnI W w.heap.size 3 v (nf gs pre).2)) ∧ Ext w W ∧ Boxed W (B + 1 + 1) 33 (.slice A (M + 1) c))
    (fun _ _ _ => False)
    (OwnFrom.and (Own.from (fun s X Y row hs hg hr => ⟨⟨boxed_own _ _ (fun _ : Unit => _) () X Y row hs.1.1 hg hr, row_kept hs.1.2 hg hr⟩, by obtain ⟨v, hv, ho⟩ := hs.2; exact ⟨v, boxed_own _ _ (fun _ : Unit => v) () X Y row hv hg hr, row_kept ho hg hr⟩⟩) _) (OwnFrom.and (ownFrom_below (Nat.le_refl _) X0.size) (Own.from (boxed_own _ _ _) _)))
    (fun _ _ _ _ _ hs _ _ => hs)
    ⟨⟨⟨bIs, oIs⟩, _, bOut, ownI_nil _ _ _⟩, X0, bS⟩
    (fun x a' W => ∃ Bx, W.heap[Bx]? = some (.cells #[.int .i64 x.1.2.k, .int .i64 x.1.2.a, .int .i64 x.1.2.b] 82 (0, 0)) ∧ a' = { tmps := #[.slice A (M + 1) c, undef, .slice none 0 0, .pointer (some ⟨B, 0, none⟩), .pointer (some ⟨B + 1, 0, none⟩), .int .i64 (x.1.1 : Int), .pointer (some ⟨Bx, 0, none⟩), undef, undef, .slice A (M + 1) c, .int .i64 ((M : Int) + 1), .slice (some ⟨w.heap.size, 0, none⟩) (M + 1) (M + 1), .slice (some ⟨w.heap.size, 0, none⟩) (M + 1) (M + 1), .slice A (M + 1) c, .int .i64 ((M : Int) + 1), .int .i64 (M : Int), .pointer (some ⟨w.heap.size, M, none⟩), .slice A (M + 1) c, .func (.func 185) #[] #[.pointer (some ⟨B + 1 + 1, 0, none⟩)], .int .i64 (x.1.1 : Int), gatV x.1.2, undef, undef, undef, undef, undef, undef, undef, undef, undef, undef, undef, undef, undef, undef, undef, undef, undef, undef, undef, undef, undef, undef, undef], defers := [] })
    (fun x a' _ X Y row hs hg hr => by obtain ⟨Bx, h1, h3⟩ := hs; exact ⟨Bx, (grownBy_keeps_cells hg (fun r e => (hr r e).2) h1 rfl).trans h1, h3⟩)
    ?assign ?body ?done ?stop
  case assign =>
    rintro l pre ⟨⟨i, g⟩, hi, hgB⟩ W K ⟨⟨⟨bIs1, oIs1⟩, v, bOut1, oOut1⟩, hX1, bS1⟩ hK
    obtain ⟨gk, ga, gb⟩ := g
    dsimp only [bwE, gatV] at *
    gi_wp2
    exact hK _ _ ((KeepsOthers.alloc _ _).from _) ⟨(Below.refl _ W).alloc hX1.size _, Below.heap_alloc _ _ _ bS1.lt⟩ ⟨⟨⟨bIs1.alloc _, OwnB.ext oIs1 (Ext.new _ _)⟩, v, bOut1.alloc _, OwnI.ext oOut1 (Ext.new _ _)⟩, hX1.alloc _, bS1.alloc _⟩ ⟨W.heap.size, heap_alloc_new W _, rfl⟩
  case body =>
    rintro l pre ⟨⟨i, g⟩, hi, hgB⟩ a' W hl ⟨r, hr⟩ ⟨⟨⟨bIs1, oIs1⟩, v, bOut1, oOut1⟩, hX1, bS1⟩ ⟨Bx, hbx, rfl⟩ hlt
    have hnl := nf_len gs pre
    have hns := nf_snoc gs pre ⟨(i, g), hi, hgB⟩
    have hnl1 : (nf gs pre).1.length = M + 1 := hnl.1.trans HM.out
    have hnl2 : (nf gs pre).2.length ≤ 200 := by have := hnl.2; have := HM.out; omega
    have hi9 := hi
    replace hi : i < M + 1 := Nat.lt_of_lt_of_eq hi HM.out
    clear hnl
    generalize nf gs pre = s at *
    obtain ⟨L, out⟩ := s
    have HNS := hd hns
    have HBD := hd (inputsL_bd hgB)
    have HIN := hd (i_inputs g)
    have hil := inputsL_len g
    have HMK := hd (mark1_fold L g)
    clear hns hr
    dsimp only at *
    generalize inputsL g = ins at *
    obtain ⟨gk, ga, gb⟩ := g
    dsimp only [gatV] at *
    have cIs := bIs1.cell
    obtain ⟨Ao, co, rfl, oO0⟩ := OwnI.form oOut1
    have oO := oO0.out
    have cOut := bOut1.cell
    obtain ⟨ao, hao, hco⟩ := RdB.getD (hd (OwnB.rd oIs1)) (k := i) (by omega)
    obtain rfl := Option.some.inj hao
    clear hao
    rw [add0] at hco
    obtain ⟨q, hq⟩ : ∃ q, L.getD i false = q := ⟨_, rfl⟩
    rw [hq] at hco
    have HQ := hd hq
    clear hq
    have hi0 : (0 : Int) ≤ (i : Int) := by omega
    have hi1 : (i : Int) < (M : Int) + 1 := by omega
    cases q
    · gi_wp2
      refine ⟨KeepsFrom.refl _ _, ⟨Below.refl _ _, rfl⟩, ⟨⟨bIs1, ?_⟩, _, bOut1, ?_⟩, hX1, bS1⟩
      · rw [HNS.out]; unfold nst; rw [if_neg (by rw [HQ.out]; decide)]; exact oIs1
      · rw [HNS.out]; unfold nst; rw [if_neg (by rw [HQ.out]; decide)]; exact oOut1
    · have HO := hd oO
      clear oO
      have hBk : w.heap.size ≤ B + 1 := by omega
      have hszW : w.heap.size ≤ (W.alloc (.cells #[.int .i64 (i : Int)] 3)).heap.size := by have := hX1.size; simp; omega
      have hbm1 : out.length + 1 ≤ maxLen := by unfold maxLen; omega
      have hbm2 : (out.length + 1) * 8 ≤ 140737488355328 := by omega
      have one1 : ∀ u ∈ [Value.int .i64 (i : Int)], u.oneCell' = true := by simp [Value.oneCell']
      gi_wp2_with (
        (gi_at_builtin; refine wpListIn_append_own _ rfl _ _ 45 rfl w.heap.size 3 i0 (.int .i64 0) 1 8 Try.underlying45 hii hz0 hz1 hz2 rfl (by decide) _ _ _ rfl (own_ext HO.out (Ext.new W _)) ⟨W.heap.size, 0, none⟩ 1 1 [.int .i64 (i : Int)] rfl rfl (cell_one_new _ _ _) one1 hbm1 hbm2 hszW ?_; intro v' w2 hown2 hgrow2 _; obtain ⟨g', cap', rfl⟩ := ownsRow_succ hown2; obtain ⟨hv1, hv2, HO3, HK3, HB3, bIs3, HI3, hbx3, bS3⟩ := app_facts bIs1 oIs1 bOut1 oOut1 hX1 hBk hbx bS1 rfl hown2 hgrow2; have hc1 := hv1.cell; have hf1 := hv1.frozen; obtain ⟨k0, k1, k2⟩ := blk3 hbx3; have cIs3 := bIs3.cell))
      refine ⟨trivial, ?_⟩
      refine (CallsIn.inRound l (callsIn_wide.2 (HIN.out _))).mono ?_
      rintro e w4 ⟨u, rfl, hu, hx4⟩
      obtain ⟨A5, c5, rfl, hu5⟩ := hu.form
      have hL2 : Hid (nf gs (pre ++ [⟨(i, ⟨gk, ga, gb⟩), hi9, hgB⟩]) = (ins.foldl setB L, out ++ [(i : Int)])) := hd (by rw [HNS.out]; unfold nst; rw [if_pos HQ.out, HMK.out])
      have hs3 : w.heap.size ≤ (w2.setCell ⟨B + 1, 0, none⟩ (.slice (some ⟨g', 0, none⟩) (out.length + 1) cap')).heap.size := Nat.le_trans hX1.size HB3.out.size
      have HX4 := hd hx4
      have oI4 : OwnB w4 w.heap.size 4 (.slice (some ⟨w.heap.size, 0, none⟩) (M + 1) (M + 1)) L := OwnB.ext HI3.out hx4
      have hs3' : w.heap.size < (w2.setCell ⟨B + 1, 0, none⟩ (.slice (some ⟨g', 0, none⟩) (out.length + 1) cap')).heap.size := (own_blocks HI3.out _ rfl).2
      have bI4 := hx4.heap bIs3
      have HU5 := hd fun (wr : World) (ht : Touch w.heap.size (w.heap.size + 1) w4 wr) => OwnI.rd (own_touch hu5.out ht fun g hg => .inr (Nat.le_trans hs3' ((own_blocks hu5.out g hg).1)))
      have HFL : Hid (∀ k, ((ins.take k).foldl setB L).length = M + 1) := hd fun k => by rw [foldS_len, hnl1]
      clear hgrow2 hown2 hv1 hc1 hf1 hu hu5 hx4 k0 k1 k2 cIs3 cIs cOut hco oO0 HO hszW one1 hbm1 hbm2 hi0 hi1
      gi_wp2
      gi_loopw [33, 8] (fun k _ wr => ∃ j : Nat, j ≤ ins.length ∧ k = .int .i64 j ∧ OwnB wr w.heap.size 4 (.slice (some ⟨w.heap.size, 0, none⟩) (M + 1) (M + 1)) ((ins.take j).foldl setB L) ∧ Touch w.heap.size (w.heap.size + 1) w4 wr ∧ KeepsOthers w4 wr) (fun k _ _ => ins.length - (intOf k).toNat)
      case atStart => exact ⟨0, by omega, rfl, oI4, Touch.refl _ _ _, KeepsOthers.refl _⟩
      case round =>
        obtain ⟨j, hj, rfl, ho, ht, hk⟩ := hrel
        have HO := hd ho
        have HT := hd ht
        have HK := hd hk
        have HR5 := hd (HU5.out _ ht)
        have cIs := Boxed.cell (touch_blk' ht bI4 (.inr hs1))
        clear ho ht hk
        by_cases hltk : j < ins.length
        · obtain ⟨a2, rfl, hc⟩ := RdI.at_ HR5 hltk
          have hxb := HBD.out _ (List.getElem_mem hltk)
          have HFS := hd (foldS_succ (l := L) hltk)
          have hfl := HFL.out j
          generalize ins[j] = t at *
          generalize (ins.take j).foldl setB L = M1 at *
          obtain ⟨hx0, hx1⟩ := hxb
          obtain ⟨tn, rfl⟩ := Int.eq_ofNat_of_zero_le hx0
          rw [Int.toNat_natCast] at HFS
          obtain ⟨⟨u0, hcell⟩, hfr, hst⟩ := ownB_store (k := tn) HO.out hfl (by omega)
          have htM : tn < M + 1 := by omega
          clear hx0
          gi_wp2
          go_roundw
          case rel => exact ⟨j + 1, by omega, by go_num, by rw [HFS.out]; exact hst.out _, HT.out.setCell (Nat.le_refl _) (Nat.lt_succ_self _) _, HK.out.trans (KeepsOthers.setCell _ _ _)⟩
          case measure => simp [intOf]; omega
        · obtain rfl : j = ins.length := by omega
          rw [List.take_length] at HO
          gi_wp2
          have hext := HX4.out
          refine ⟨((HK3.out.trans (ext_keeps hext)).trans HK.out).from _, ⟨?_, ?_⟩, ⟨⟨touch_blk' HT.out bI4 (.inr hs1), ?_⟩, _, touch_blk' HT.out (hext.heap hv2) (.inr (by omega)), ?_⟩, ?_, touch_blk' HT.out (hext.heap bS3) (.inr (by omega))⟩
          · exact (HB3.out.trans (Below.mono hext hs3)).trans (Touch.below (Below.refl _ _) HT.out (Nat.le_refl _) (Nat.le_trans hs3 hext.size))
          · exact (touch_blk' HT.out (hext.heap bS3) (.inr (by omega))).trans bS1.symm
          · rw [hL2.out]; exact HO.out
          · rw [hL2.out]
            refine own_touch (HO3.out.ext hext) HT.out fun g hg => ?_
            have hne : w.heap.size ≠ g := fun e => by
              subst e
              rcases rows_ne (by decide) HI3.out HO3.out with h | h
              · cases h
              · exact h hg.symm
            have := (own_blocks HO3.out g hg).1
            omega
          · exact touch_ext (Ext.trans (Below.trans hX1 HB3.out) hext) HT.out (Nat.le_refl _)
  case done =>
    rintro D ys W hD rfl ⟨⟨⟨-, -⟩, v, bOut1, oOut1⟩, hX1, -⟩ hK
    rw [nf_bw] at oOut1
    dsimp only at oOut1
    have hol : (outN gs gs.length).length ≤ 200 := by have := outN_len gs gs.length; have := HM.out; omega
    have HNL : Hid (needL gs = (outN gs gs.length).reverse) := hd rfl
    generalize outN gs gs.length = out at *
    have cOut := bOut1.cell
    have HRV := hd (slices_ReverseI out v W w.heap.size oOut1 (by omega))
    have HBK : Hid (∀ w2, W.grownBy w2 v.ownBlock → w2.cell? ⟨B + 1, 0, none⟩ = some v) := hd fun w2 hg2 => (bOut1.kept hg2 (row_ne bOut1 (by decide) oOut1)).cell
    obtain ⟨Ao, co, rfl, oO⟩ := OwnI.form oOut1
    go_wp2_with (go_at_call 167; refine HRV.out.mono ?_; rintro e w2 ⟨rfl, ho2, hg2⟩; have cOut2 := HBK.out w2 hg2)
    have hK2 := (KeepsOthers.of_grownBy hg2 (row_cells oOut1)).same D _ hK rfl
    have hw2 : w2.heap.size ≥ w.heap.size := Nat.le_trans hX1.size hg2.size
    refine ⟨by simp, .inl ⟨_, _, rfl, run_takeDeferred hK2, ?_⟩⟩
    refine ⟨_, results_tmp rfl _ _ _, _, rfl, ?_, ?_⟩
    · rw [HNL.out]; exact ownsRow_putObj ho2 _ hK2 rfl
    · exact Below.trans (ext_appS hX1 hg2 fun g hg => (own_blocks oOut1 g hg).1) (belowK_b (w := w) (Nat.le_refl _) w2 D _ _ (Nat.le_trans X0.size hD) hK2 rfl rfl)
  case stop =>
    rintro D c pre W _ _ h _
    exact h.elim
end Go.Proofs.Ytjeeffmpfdhppaa
