/-
  Pebbling, a shortest one: the program's side. Condition: sizes up to 2^20.
-/
import Derived.Test.YtapgpjhogdmjbaaPebX
import Derived.WalkMore
namespace Go.Proofs.Ytapgpjhogdmjbaa
open Go.RowKit Go.Shelf Peb
attribute [local go_sem] Oper.semAt_some
def RetM2 (w : World) (es : List (Int × Int)) (b : Bool) : Ending → World → Prop := fun e w' => ∃ u, e = .returned (.tuple #[u, .bool b]) ∧ Own_PebbleMoveS w' w.heap.size w'.heap.size u es ∧ Ext w w'
open Classical in
theorem time_dst {ds : List (List Int)} {s : Int} {rev : Bool} (h : timeB ds s rev = true) : goodD ds = true ∧ inB s 1 10 = true ∧ ∃ sn : Nat, s = (sn : Int) ∧ sn ≤ 10 ∧ ∃ d0 : Nat, timeN ds s rev = (d0 : Int) ∧ Dst (eP ds ds.length rev sn) (dP ds.length rev sn) (2 ^ ds.length) d0 0 := by
  have h' := h
  unfold timeB at h'
  rw [Bool.and_eq_true, Bool.and_eq_true, decide_eq_true_iff] at h'
  obtain ⟨hg, hi, hr⟩ := h'
  have := inB_iff.1 hi
  obtain ⟨sn, rfl⟩ : ∃ sn : Nat, s = (sn : Int) := ⟨s.toNat, by omega⟩
  refine ⟨hg, hi, sn, rfl, by omega, ?_⟩
  unfold timeN
  rw [dif_pos ⟨h, hr⟩]
  refine ⟨_, rfl, ?_⟩
  have hc := Classical.choose_spec (show timeB ds (sn : Int) rev = true ∧ ∃ d, Dst (eP ds ds.length rev (sn : Int).toNat) (dP ds.length rev (sn : Int).toNat) (2 ^ ds.length) d 0 from ⟨h, hr⟩).2
  have key : ∀ t d, t = sn → Dst (eP ds ds.length rev t) (dP ds.length rev t) (2 ^ ds.length) d 0 → Dst (eP ds ds.length rev sn) (dP ds.length rev sn) (2 ^ ds.length) d 0 := fun t d ht hd => by
    subst ht; exact hd
  exact key _ _ (Int.toNat_natCast sn) hc
theorem cell_two_new (w : World) (x y : Value) (t : TypeId) : ∀ j u, [x, y][j]? = some u → (w.alloc (.cells #[x, y] t)).cell? ((⟨w.heap.size, 0, none⟩ : Addr).add j) = some u := by
  intro j u hj
  have h := World.news_of_block (World.alloc_heap_new w (.cells #[x, y] t)) j u hj
  exact h
set_option maxRecDepth 100000 in
set_option maxHeartbeats 16000000 in
theorem i_ShortestPebbling (ds : List (List Int)) (v : Value) (s : Int) (w : World) (h : Rd_Dag w v ds) (hb : Bd_Dag ds) (_ : I64_Dag ds) (_ : I64 s) :
    Calls Try.prog 17 #[v, .int .i64 s] w (RetM2 w (shoL ds s) (timeB ds s false)) := by
  have HV := hd h
  obtain ⟨vc, rfl, hC⟩ := h
  obtain ⟨A, c, rfl, -, -, -⟩ := hC.form
  have XB := hd (Ext.new w (.cells #[.slice A ds.length c] 28))
  have HT := hd (i_TimeFor ds s false _ _ (HV.out.ext XB.out) hb short_irr)
  have HBD := hd hb
  have B0 := hd (Boxed.new w 28 (.slice A ds.length c))
  clear hC hb
  refine (callsIn_wide (n := 8)).1 (callsIn_of_wp_marks Try.func17 rfl trivial ?_ rfl)
  refine (wpIn_wide (n := 8)).2 ?_
  simp only [Try.ntmps17, List.size_toArray, List.length_cons, List.length_nil, Nat.reduceAdd, Nat.reduceSub, Array.replicate_succ, Array.replicate_zero, List.push_toArray, List.append_toArray, List.nil_append, List.cons_append]
  cases hq : timeB ds s false
  · have HL := hd (shoL_no hq)
    have HN := hd (time_no hq)
    rw [hq, HN.out] at HT
    rw [HL.out]
    clear hq
    go_wp2_with fail
    refine HT.out.mono ?_
    rintro e w1 ⟨rfl, hx1⟩
    have X1 := hd (XB.out.trans hx1)
    clear hx1
    go_wp2
    exact ⟨_, results_tmp2 rfl _ _ _, _, rfl, ⟨own_nil _ _ _ _, by simp [Value.ownBlock]⟩, X1.out.alloc _⟩
  · obtain ⟨hg, -, sn, rfl, hsn10, d0, hN, hD⟩ := time_dst hq
    obtain ⟨hn1, hn10, -⟩ := goodD_dag hg
    have HG := hd hg
    have HSO := hd (fun F hF => shoL_of (F := F) hq hF)
    rw [hN, Int.toNat_natCast] at HSO
    have HDD := hd hD
    rw [hq, hN] at HT
    have HLF := hd (fun (w' : World) (hx : Ext w w') => i_left ds sn false _ w' (HV.out.ext hx) hg HBD.out)
    have hM10 : 2 ^ ds.length ≤ 1024 := by have := Nat.pow_le_pow_right (n := 2) (by decide) hn10; simpa using this
    have hM1 : 1 ≤ 2 ^ ds.length := Nat.pow_pos (by decide)
    clear hq hN hg hD
    go_wp2_with fail
    refine HT.out.mono ?_
    rintro e w1 ⟨rfl, hx1⟩
    have X1 := hd (XB.out.trans hx1)
    have HB1 := hd (hx1.heap B0.out)
    have cz := (show Boxed w1 w.heap.size 28 (.slice A ds.length c) from HB1.out).cell
    have cy := ((show Boxed w1 w.heap.size 28 (.slice A ds.length c) from HB1.out).alloc (.cells #[.int .i64 (d0 : Int)] 3)).cell
    have HB6 := hd (Boxed.new w1 3 (.int .i64 (d0 : Int)))
    have X2 := hd (X1.out.alloc (.cells #[.int .i64 (d0 : Int)] 3))
    clear hx1
    go_wp2_with fail
    refine (HLF.out _ X2.out).mono ?_
    rintro e w5 ⟨g, F, rfl, hO, hF, hx5⟩
    have HF := hd hF
    have HO := hd hO
    have HFL := hd hF.fl
    have HSL := hd (HSO.out F hF)
    have HB6' := hd (hx5.heap HB6.out)
    have HB1' := hd (hx5.heap (Boxed.alloc HB1.out (.cells #[.int .i64 (d0 : Int)] 3)))
    have X5 := hd (X2.out.trans hx5)
    rw [World.size_alloc] at HO
    obtain ⟨B6, hB6⟩ : ∃ B, w1.heap.size = B := ⟨_, rfl⟩
    have h6lo : w.heap.size ≤ B6 := by rw [← hB6]; exact X1.out.size
    rw [hB6] at HO HB6'
    clear hO hF hx5 cz cy HB1 HB6 HLF HSO X1 X2
    obtain ⟨M, hM⟩ : ∃ M, 2 ^ ds.length = M := ⟨_, rfl⟩
    have HMM := hd hM
    rw [hM] at hM10 hM1 HO HFL
    clear hM
    have hd0M : d0 ≤ 1024 := by
      have := dst_le (by rw [HMM.out]; omega) HDD.out
      rw [HMM.out] at this
      omega
    go_wp2_with fail
    rw [HMM.out]
    have hS0 : ShS w (((w5.alloc (.cells #[.slice (some ⟨g, 0, none⟩) M M] 44)).alloc (.cells #[.slice none 0 0] 34)).alloc (.cells #[.int .u64 0] 55)) A ds.length c g M F B6 w5.heap.size (w5.heap.size + 1) (w5.heap.size + 1 + 1) d0 0 [] w5.heap.size [] := by
      have e1 := Boxed.new w5 44 (.slice (some ⟨g, 0, none⟩) M M)
      have e2 := Boxed.new (w5.alloc (.cells #[.slice (some ⟨g, 0, none⟩) M M] 44)) 34 (.slice none 0 0)
      have e3 := Boxed.new ((w5.alloc (.cells #[.slice (some ⟨g, 0, none⟩) M M] 44)).alloc (.cells #[.slice none 0 0] 34)) 55 (.int .u64 0)
      simp only [World.size_alloc] at e2 e3
      have hsz := X5.out.size
      exact ⟨((X5.out.alloc _).alloc _).alloc _, ((Boxed.alloc HB1'.out _).alloc _).alloc _, ((Boxed.alloc HB6'.out _).alloc _).alloc _, (e1.alloc _).alloc _, own_ext (own_ext (own_ext HO.out (Ext.new _ _)) (Ext.new _ _)) (Ext.new _ _), HFL.out, ⟨_, e2.alloc _, own_nil _ _ _ _⟩, e3, ⟨h6lo, hsz, by omega, by omega⟩, Marks.nil⟩
    have HS0 := hd hS0.top
    clear hS0
    generalize ((w5.alloc (.cells #[.slice (some ⟨g, 0, none⟩) M M] 44)).alloc (.cells #[.slice none 0 0] 34)).alloc (.cells #[.int .u64 0] 55) = W0 at *
    obtain ⟨B9, hB9⟩ : ∃ B, w5.heap.size + 1 = B := ⟨_, rfl⟩
    obtain ⟨B10, hB10⟩ : ∃ B, w5.heap.size + 1 + 1 = B := ⟨_, rfl⟩
    obtain ⟨B8, hB8⟩ : ∃ B, w5.heap.size = B := ⟨_, rfl⟩
    rw [hB10, hB9, hB8] at HS0 ⊢
    clear hB9 hB10 hB8 hB6 X5 HB1' HB6' HO HT
    refine wp_loop_ghost_k (fun gk' a' w' => ∃ (x10 x11 x12 x24 x25 x26 x27 x28 x29 x30 x31 x32 x33 x34 x35 x36 x37 x38 x39 x40 x41 x42 x43 x44 x45 x46 x47 : Value) (dl : List Deferred), (∃ (P : Nat) (out : List (Int × Int)) (B10 : Nat), x10 = .pointer (some ⟨B10, 0, none⟩) ∧ ShS w w' A ds.length c g M F B6 B8 B9 B10 gk' P out w'.heap.size dl ∧ P < M ∧ gk' ≤ d0 ∧ out.length + gk' ≤ d0 ∧ Dst (eP ds ds.length false sn) (dP ds.length false sn) (2 ^ ds.length) gk' P ∧ shoL ds (sn : Int) = out ++ pathL ds sn F gk' P) ∧ a' = { tmps := #[.agg #[.slice A ds.length c], .int .i64 (sn : Int), .pointer (some ⟨w.heap.size, 0, none⟩), undef, .slice none 0 0, .bool false, .pointer (some ⟨B6, 0, none⟩), .bool true, .pointer (some ⟨B8, 0, none⟩), .pointer (some ⟨B9, 0, none⟩), x10, x11, x12, .tuple #[.int .i64 (d0 : Int), .bool true], .agg #[.slice A ds.length c], .int .i64 (sn : Int), .tuple #[.int .i64 (d0 : Int), .bool true], .int .i64 (d0 : Int), .bool true, .bool true, .bool false, .agg #[.slice A ds.length c], .int .i64 (sn : Int), .slice (some ⟨g, 0, none⟩) M M, x24, x25, x26, x27, x28, x29, x30, x31, x32, x33, x34, x35, x36, x37, x38, x39, x40, x41, x42, x43, x44, x45, x46, x47], defers := dl }) d0 ?start ?round
    case start =>
      (repeat apply Exists.intro)
      refine ⟨?_, rfl⟩
      exact ⟨0, [], B10, rfl, HS0.out, by omega, Nat.le_refl _, by simp, HDD.out, HSL.out⟩
    case round =>
      clear HS0 HDD HSL
      intro gk _ wr hinv
      obtain ⟨x10, hinv⟩ := hinv
      obtain ⟨x11, hinv⟩ := hinv
      obtain ⟨x12, hinv⟩ := hinv
      obtain ⟨x24, hinv⟩ := hinv
      obtain ⟨x25, hinv⟩ := hinv
      obtain ⟨x26, hinv⟩ := hinv
      obtain ⟨x27, hinv⟩ := hinv
      obtain ⟨x28, hinv⟩ := hinv
      obtain ⟨x29, hinv⟩ := hinv
      obtain ⟨x30, hinv⟩ := hinv
      obtain ⟨x31, hinv⟩ := hinv
      obtain ⟨x32, hinv⟩ := hinv
      obtain ⟨x33, hinv⟩ := hinv
      obtain ⟨x34, hinv⟩ := hinv
      obtain ⟨x35, hinv⟩ := hinv
      obtain ⟨x36, hinv⟩ := hinv
      obtain ⟨x37, hinv⟩ := hinv
      obtain ⟨x38, hinv⟩ := hinv
      obtain ⟨x39, hinv⟩ := hinv
      obtain ⟨x40, hinv⟩ := hinv
      obtain ⟨x41, hinv⟩ := hinv
      obtain ⟨x42, hinv⟩ := hinv
      obtain ⟨x43, hinv⟩ := hinv
      obtain ⟨x44, hinv⟩ := hinv
      obtain ⟨x45, hinv⟩ := hinv
      obtain ⟨x46, hinv⟩ := hinv
      obtain ⟨x47, hinv⟩ := hinv
      obtain ⟨dl, hrel, ha⟩ := hinv
      subst ha
      try dsimp only
      intro _ _ _ _
      obtain ⟨P, out, B10, rfl, hS, hP, hgk, hol, hD, hsl⟩ := hrel
      have HS := hd hS
      have HD := hd hD
      have HSL := hd hsl
      have c0 := hS.b0.cell
      have c6 := hS.b6.cell
      have c10 := hS.b10.cell
      clear hS hD hsl
      obtain ⟨v, hvB, hvO⟩ := HS.out.bx
      obtain ⟨Av, cv, rfl, HVO⟩ := OwnP.form hvO
      have c9 := hvB.cell
      clear hvO hvB
      cases gk with
      | zero =>
        have HSL2 := hd (HSL.out.trans (by rw [pathL, List.append_nil]) : shoL ds (sn : Int) = out)
        go_wp2
        refine HS.out.mks.leaves (T := fun W => OwnM W w.heap.size (.slice Av out.length cv) out ∧ Ext w W) (fun W h => ⟨_, results_tmp2 rfl _ _ _, _, rfl, ⟨by rw [HSL2.out]; exact h.1, fun b hb => (own_blocks h.1 b hb).2⟩, h.2⟩) (fun W D hlo hk h => ⟨ownsRow_putObj h.1 _ hk rfl, Below.trans h.2 (belowK_b (w := w) (Nat.le_refl _) W D _ _ hlo hk rfl rfl)⟩) ⟨HVO.out, HS.out.x⟩
      | succ d =>
        have HANY := hd (nxt_some HF.out HD.out)
        have hd0 : (0 : Int) < (d : Int) + 1 := by omega
        have hPu : (0 : Int) ≤ (P : Int) := by omega
        have hdM : d + 1 ≤ 1024 := by
          have := dst_le (by rw [HMM.out]; exact hP) HD.out
          rw [HMM.out] at this
          omega
        rw [show ((d + 1 : Nat) : Int) = (d : Int) + 1 from rfl] at c6
        go_wp2_with fail
        refine (i_moves _ _ _ _ _).mono ?_
        rintro e w6 ⟨rfl, rfl⟩
        clear c0 c6 c9 c10 HVO
        have h0 := World.alloc_heap_new wr (.cells #[.slice A ds.length c] 28)
        have h1 := World.alloc_heap_new (wr.alloc (.cells #[.slice A ds.length c] 28)) (.cells #[.int .u64 (P : Int)] 55)
        have h2 := World.alloc_heap_new ((wr.alloc (.cells #[.slice A ds.length c] 28)).alloc (.cells #[.int .u64 (P : Int)] 55)) (.cells #[.int .i64 (sn : Int)] 3)
        have h3 := World.alloc_heap_new (((wr.alloc (.cells #[.slice A ds.length c] 28)).alloc (.cells #[.int .u64 (P : Int)] 55)).alloc (.cells #[.int .i64 (sn : Int)] 3)) (.cells #[.bool false] 4)
        have e1 := Ext.new (wr.alloc (.cells #[.slice A ds.length c] 28)) (.cells #[.int .u64 (P : Int)] 55)
        have e2 := Ext.new ((wr.alloc (.cells #[.slice A ds.length c] 28)).alloc (.cells #[.int .u64 (P : Int)] 55)) (.cells #[.int .i64 (sn : Int)] 3)
        have e3 := Ext.new (((wr.alloc (.cells #[.slice A ds.length c] 28)).alloc (.cells #[.int .u64 (P : Int)] 55)).alloc (.cells #[.int .i64 (sn : Int)] 3)) (.cells #[.bool false] 4)
        replace h0 := ((e1.trans e2).trans e3).heap h0
        replace h1 := (e2.trans e3).heap h1
        replace h2 := e3.heap h2
        have hx4 : Ext wr ((((wr.alloc (.cells #[.slice A ds.length c] 28)).alloc (.cells #[.int .u64 (P : Int)] 55)).alloc (.cells #[.int .i64 (sn : Int)] 3)).alloc (.cells #[.bool false] 4)) := (((Ext.new _ _).trans e1).trans e2).trans e3
        simp only [World.size_alloc] at h1 h2 h3
        clear e1 e2 e3
        obtain ⟨W4, hW4⟩ : ∃ W4, (((wr.alloc (.cells #[.slice A ds.length c] 28)).alloc (.cells #[.int .u64 (P : Int)] 55)).alloc (.cells #[.int .i64 (sn : Int)] 3)).alloc (.cells #[.bool false] 4) = W4 := ⟨_, rfl⟩
        rw [hW4] at h0 h1 h2 h3 hx4 ⊢
        clear hW4
        obtain ⟨B, hB⟩ : ∃ B, wr.heap.size = B := ⟨_, rfl⟩
        rw [hB] at h0 h1 h2 h3 ⊢
        clear hB
        have HS4 := hd ((HS.out.ext hx4).top)
        have HRD := hd (HV.out.ext HS4.out.x)
        have HBB := hd (And.intro h0 (And.intro h1 (And.intro h2 h3)))
        clear h0 h1 h2 h3 hx4 HS
        go_wp2
        refine (wpIn_wide (n := 8)).1 ?_
        refine wpIn_rangeFunc_ownH rfl (by decide) (gf := 46) (lb := #[.pointer (some ⟨B, 0, none⟩), .pointer (some ⟨B + 1, 0, none⟩), .pointer (some ⟨B + 1 + 1 + 1, 0, none⟩), .pointer (some ⟨B + 1 + 1, 0, none⟩)]) rfl trivial (enters_of Try.func46 (by kernel_rfl) rfl)
          (moves_stops 7 (by decide) B ds sn P false HG.out HBD.out (by rw [HMM.out]; exact hP) A c W4 HRD.out HBB.out.1 HBB.out.2.1 HBB.out.2.2.1 HBB.out.2.2.2)
          (fun h k => h.trans k) (belowK_b (Nat.le_refl _)) (Below.refl _ _) (fun _ => rfl)
          (fun pre W => (ShS w W A ds.length c g M F B6 B8 B9 B10 (d + 1) P out W4.heap.size dl ∧ pre.any (hitM F d) = false) ∧ Ext W4 W)
          (fun c' pre W => c' = .exit 2 ∧ ∃ pr m, pre = pr ++ [m] ∧ pr.any (hitM F d) = false ∧ hitM F d m = true ∧ ShS w W A ds.length c g M F B6 B8 B9 B10 (d + 1) m.1.2.2 (out ++ [mvI m]) W4.heap.size dl)
          (fun pre X Y row hs hg hr => ⟨⟨hs.1.1.turn HS4.out.x.size hg hr, hs.1.2⟩, Below.grown hs.2 hg hs.2.size fun k e => (hr k e).1⟩)
          (fun c' pre X Y row hs hg hr => by obtain ⟨h1, pr, m, h2, h3, h4, h5⟩ := hs; exact ⟨h1, pr, m, h2, h3, h4, h5.turn HS4.out.x.size hg hr⟩)
          ⟨⟨HS4.out, rfl⟩, Ext.refl _⟩
          (fun x a' W => ∃ Bm, W.heap[Bm]? = some (.cells #[.int .i64 ((x.1.1 : Int) + 1), .int .i64 (x.1.2.1 : Int)] 52 (0, 0)) ∧ a' = { tmps := #[.agg #[.slice A ds.length c], .int .i64 (sn : Int), .pointer (some ⟨w.heap.size, 0, none⟩), undef, .slice none 0 0, .bool false, .pointer (some ⟨B6, 0, none⟩), .bool true, .pointer (some ⟨B8, 0, none⟩), .pointer (some ⟨B9, 0, none⟩), .pointer (some ⟨B10, 0, none⟩), .pointer (some ⟨Bm, 0, none⟩), .int .u64 (x.1.2.2 : Int), .tuple #[.int .i64 (d0 : Int), .bool true], .agg #[.slice A ds.length c], .int .i64 (sn : Int), .tuple #[.int .i64 (d0 : Int), .bool true], .int .i64 (d0 : Int), .bool true, .bool true, .bool false, .agg #[.slice A ds.length c], .int .i64 (sn : Int), .slice (some ⟨g, 0, none⟩) M M, .int .i64 ((d : Int) + 1), .bool true, x26, x27, .agg #[.slice A ds.length c], .int .u64 (P : Int), .int .i64 (sn : Int), .func (.func 46) #[] #[.pointer (some ⟨B, 0, none⟩), .pointer (some ⟨B + 1, 0, none⟩), .pointer (some ⟨B + 1 + 1 + 1, 0, none⟩), .pointer (some ⟨B + 1 + 1, 0, none⟩)], .agg #[.int .i64 ((x.1.1 : Int) + 1), .int .i64 (x.1.2.1 : Int)], .int .u64 (x.1.2.2 : Int), x34, x35, x36, x37, x38, x39, x40, x41, x42, x43, x44, x45, x46, x47], defers := [] })
          (fun x a' _ X Y row hs hg hr => by obtain ⟨Bm, h1, h3⟩ := hs; exact ⟨Bm, (grownBy_keeps_cells hg (fun r e => (hr r e).2) h1 rfl).trans h1, h3⟩)
          ?assign ?body ?done ?stop
        case assign =>
          rintro l pre ⟨⟨j, y, Q⟩, hm⟩ W K hi hK
          dsimp only [mvE] at *
          gi_wp2
          exact hK _ _ ((KeepsOthers.alloc _ _).from _) (Ext.below (Below.refl _ _) (Ext.new W _) hi.2.size) ⟨⟨hi.1.1.ext (Ext.new W _), hi.1.2⟩, hi.2.alloc _⟩ ⟨W.heap.size, heap_alloc_new W _, rfl⟩
        case body =>
          rintro l pre ⟨⟨j, y, Q⟩, hm⟩ a' W hl ⟨rr, hrr⟩ ⟨⟨hSW, hpre⟩, hxW⟩ ⟨Bm, hbm, rfl⟩ hlt
          have HXW := hd hxW
          clear hxW
          obtain ⟨-, k2, -, k4, -⟩ := okA_iff.1 hm
          dsimp only at k2 k4
          have hQM : Q < M := by
            have := flip_lt (n := ds.length) (P := P) (x := y) (by rw [HMM.out]; exact hP) k2
            rw [HMM.out] at this
            rw [k4]; exact this
          clear k2 k4 hlt hrr
          have HSW := hd hSW
          have HPRE := hd hpre
          have c8 := hSW.b8.cell
          have cQ := hSW.at_ hQM
          have c6 := hSW.b6.cell
          rw [show ((d + 1 : Nat) : Int) = (d : Int) + 1 from rfl] at c6
          have HHM : Hid (hitM (ds := ds) (rev := false) (s := sn) (P := P) F d ⟨(j, y, Q), hm⟩ = decide (fa F Q = (d : Int))) := hd rfl
          have hd1 : (d : Int) ≤ 1024 := by omega
          have hd2 : (0 : Int) ≤ (d : Int) := by omega
          have hQ0 : (0 : Int) ≤ (Q : Int) := by omega
          have hQ1 : (Q : Int) < (M : Int) := by omega
          dsimp only at hbm
          clear hSW hpre
          by_cases hit : fa F Q = (d : Int)
          · have HHM2 := hd (HHM.out.trans (decide_eq_true hit))
            rw [hit] at cQ
            clear hit HHM
            obtain ⟨v, hvB, hvO⟩ := HSW.out.bx
            obtain ⟨Av, cv, rfl, HVO⟩ := OwnP.form hvO
            have HVB := hd hvB
            have HBM := hd hbm
            clear hvO hvB hbm
            gi_wp2
            refine region_inRound (F := Fence.wide) rfl (by kernel_rfl) (by kernel_rfl) (by kernel_rfl) ?_
            repeat (gi_big_quiet_step (fail))
            refine wpQuietIn_nil ?_
            rintro _ ⟨nq, rfl⟩
            have K5 : Hid (KeepsOthers W (W.drewN nq)) := hd ⟨Nat.le_refl _, fun _ _ h _ => h⟩
            have HS5 := hd (HSW.out.ext ((Ext.refl W).drewN nq))
            have HVB5 : Hid (Boxed (W.drewN nq) B9 34 (.slice Av out.length cv)) := hd HVB.out
            have HVO5 := hd (own_ext HVO.out ((Ext.refl W).drewN nq))
            have HBM5 : Hid ((W.drewN nq).heap[Bm]? = some (.cells #[.int .i64 ((j : Int) + 1), .int .i64 (y : Int)] 52 (0, 0))) := hd HBM.out
            clear c8 cQ c6 HSW HVB HVO HBM
            generalize W.drewN nq = W5 at *
            have cX := HVB5.out.cell
            obtain ⟨cm0, cm1⟩ := blk2 HBM5.out
            have hszW : w.heap.size ≤ (W5.alloc (.cells #[.int .i64 ((j : Int) + 1), .int .i64 (y : Int)] 52)).heap.size := by have := HS5.out.x.size; simp; omega
            have hbm1 : out.length + 1 ≤ maxLen := by unfold maxLen; omega
            have hbm2 : (out.length + 1) * 16 ≤ 140737488355328 := by omega
            have one1 : ∀ u ∈ [Value.int .i64 ((j : Int) + 1), Value.int .i64 (y : Int)], u.oneCell' = true := by simp [Value.oneCell']
            obtain ⟨i0, hii, hz0, hz1, hz2⟩ := info_parts info_mv
            gi_wp2_with (gi_at_builtin; refine wpListIn_append_own _ rfl _ _ 34 rfl w.heap.size 52 i0 (.agg #[.int .i64 0, .int .i64 0]) 2 16 Try.underlying34 hii hz0 hz1 hz2 rfl (by decide) _ _ _ rfl (own_ext HVO5.out (Ext.new W5 _)) ⟨W5.heap.size, 0, none⟩ 1 1 [.int .i64 ((j : Int) + 1), .int .i64 (y : Int)] rfl rfl (cell_two_new _ _ _ _) one1 hbm1 hbm2 hszW ?_; intro v' w2 hown2 hgrow2 _; obtain ⟨g', cap', rfl⟩ := ownsRow_succ hown2; have hoI : OwnM w2 w.heap.size (.slice (some ⟨g', 0, none⟩) (out.length + 1) cap') (out ++ [((j : Int) + 1, (y : Int))]) := (by unfold OwnM OwnP OwnN; rw [flat2_append, ints_append, List.length_append]; exact hown2); obtain ⟨hv1, hL6, hK6⟩ := HS5.out.push HVB5.out HVO5.out hoI hgrow2; have hc1 := hv1.cell; have hf1 := hv1.frozen; obtain ⟨hf10, hL7⟩ := hL6.put10 Q; have hc10 := hL6.b10.cell)
            refine ⟨((K5.out.trans hK6).trans (KeepsOthers.setCell _ _ _)).from _, rfl, pre, ⟨(j, y, Q), hm⟩, rfl, HPRE.out, HHM2.out, hL7⟩
          · have HHM2 := hd (HHM.out.trans (decide_eq_false hit))
            clear HHM hbm
            generalize fa F Q = fq at *
            gi_wp2
            refine region_inRound (F := Fence.wide) rfl (by kernel_rfl) (by kernel_rfl) (by kernel_rfl) ?_
            repeat (gi_big_quiet_step (fail))
            refine wpQuietIn_nil ?_
            rintro _ ⟨nq, rfl⟩
            gi_wp2
            refine ⟨⟨Nat.le_refl _, fun _ _ _ h _ => h⟩, ⟨rfl, rfl, rfl, Nat.le_refl _, fun _ _ => rfl⟩, ⟨HSW.out.ext ((Ext.refl W).drewN nq), ?_⟩, HXW.out.drewN nq⟩
            rw [List.any_append, HPRE.out, Bool.false_or, List.any_cons, HHM2.out]; rfl
        case done =>
          rintro D ys W hD rfl ⟨⟨-, hany⟩, -⟩ hK
          rw [HANY.out] at hany
          cases hany
        case stop =>
          rintro D c' pre W hD ⟨k, hk, hpre⟩ ⟨rfl, pr, m, rfl, hany, hm, hL⟩ hK
          have hnx := nxt_of hk hpre.symm hany hm
          have HP := hd (HSL.out.trans (by rw [pathL_step hnx]))
          obtain ⟨hQM, hDQ⟩ := nxt_dst HF.out (by rw [HMM.out]; exact hP) hm
          rw [HMM.out] at hQM
          have HDQ := hd hDQ
          have HL8 := hd (hL.more HS4.out.x.size hD hK)
          clear hL hany hpre hDQ hnx hm
          generalize m.1.2.2 = Q at *
          generalize mvI m = mm at *
          refine (wpIn_wide (n := 8)).2 ?_
          have c10 := HL8.out.b10.cell
          have HLN := hd HL8.out.new10
          have c6 := HLN.out.b6.cell
          obtain ⟨f6, hL9⟩ := HLN.out.put6 d
          have HL9 := hd hL9.top
          rw [show ((d + 1 : Nat) : Int) = (d : Int) + 1 from rfl] at c6
          have hd1 : (d : Int) ≤ 1024 := by omega
          have hd2 : (0 : Int) ≤ (d : Int) := by omega
          clear HLN hL9 HL8
          go_wp2
          go_roundg d
          case measure => omega
          case rel => exact ⟨Q, out ++ [mm], W.heap.size, rfl, HL9.out, hQM, by omega, by simp; omega, HDQ.out, by rw [HP.out]; simp⟩
end Go.Proofs.Ytapgpjhogdmjbaa
