/-
  Pebbling, the program's search, walked. Condition: a valid graph, any size.
-/
import Derived.Test.YtapgpjhogdmjbaaPebN
import Derived.WalkMore
namespace Go.Proofs.Ytapgpjhogdmjbaa
open Go.RowKit Go.Shelf Peb
attribute [local go_sem] Oper.semAt_some
set_option maxRecDepth 100000 in
set_option maxHeartbeats 16000000 in
theorem i_left (ds : List (List Int)) (s : Nat) (rev : Bool) (v : Value) (w : World) (h : Rd_Dag w v ds) (hg : goodD ds = true) (hb : Bd_Dag ds) :
    Calls Try.prog 29 #[v, .int .i64 (s : Int), .bool rev] w (RetFar w (eP ds ds.length rev s) (dP ds.length rev s) (2 ^ ds.length)) := by
  have HV := hd h
  obtain ⟨vc, rfl, hC⟩ := h
  obtain ⟨A, c, rfl, -, -, -⟩ := hC.form
  obtain ⟨hn1, hn10, hdag⟩ := goodD_dag hg
  have hM10 : 2 ^ ds.length ≤ 1024 := by have := Nat.pow_le_pow_right (n := 2) (by decide) hn10; simpa using this
  have hM1 : 1 ≤ 2 ^ ds.length := Nat.pow_pos (by decide)
  have hwM := wrap_pow (m := ds.length) (by omega)
  have HGO := hd (fun (w' : World) (hx : Ext w w') P hP => i_goal ds P rev _ w' (HV.out.ext hx) hn1 hn10 hP)
  have HSZ := hd (fun (w' : World) P hP => i_size P w' hP)
  have HDP : Hid (∀ P, dP ds.length rev s P = (goalB ds.length rev P && decide (cnt P ≤ s))) := hd fun P => rfl
  have HG := hd hg
  have HB := hd hb
  have XB := hd (Ext.new w (.cells #[.slice A ds.length c] 28))

  clear hC hg hdag hb
  obtain ⟨M, hM⟩ : ∃ M, 2 ^ ds.length = M := ⟨_, rfl⟩
  rw [hM] at hM10 hM1 hwM ⊢
  have HMM := hd hM
  clear hM
  refine (callsIn_wide (n := 8)).1 (callsIn_of_wp_marks Try.func29 rfl trivial ?_ rfl)
  refine (wpIn_wide (n := 8)).2 ?_
  simp only [Try.ntmps29, List.size_toArray, List.length_cons, List.length_nil, Nat.reduceAdd, Nat.reduceSub, Array.replicate_succ, Array.replicate_zero, List.push_toArray, List.append_toArray, List.nil_append, List.cons_append]
  go_wp2_with fail
  go_step3
  go_wp2_with (at_make; refine mkI (n := M) _ rfl _ _ rfl (by first | rfl | (show Value.int .i64 _ = _; rw [hwM])) (by first | rfl | (show Value.int .i64 _ = _; rw [hwM])) (by omega) rfl ?_; intro w2 hown2 hx2)
  have hs2 := (ownI_blk (g := w.heap.size + 1) (by rw [World.size_alloc] at hown2; exact hown2)).2
  have hS0 : LfS w (w2.alloc (.cells #[.slice (some ⟨w.heap.size + 1, 0, none⟩) M M] 44)) A ds.length c (w.heap.size + 1) M (List.replicate M 0) w2.heap.size := by
    rw [World.size_alloc] at hown2
    exact ⟨((Ext.new _ _).trans hx2).alloc _, (Ext.new w2 _).heap (hx2.heap (heap_n1 w _)), Boxed.new _ _ _, own_ext hown2 (Ext.new _ _), List.length_replicate, by omega, by omega⟩
  obtain ⟨Bf, hBf⟩ : ∃ B, w2.heap.size = B := ⟨_, rfl⟩
  rw [hBf] at hS0 ⊢
  obtain ⟨g, hgg⟩ : ∃ g, w.heap.size + 1 = g := ⟨_, rfl⟩
  rw [hgg] at hS0 ⊢
  generalize w2.alloc (.cells #[.slice (some ⟨g, 0, none⟩) M M] 44) = W1 at *
  clear hown2 hx2 hs2 hBf w2
  have HGG := hd hgg
  clear hgg
  have HS0 := hd hS0
  have HFL0 : Hid (∀ i, i < 0 → fa (List.replicate M 0) i = if dP ds.length rev s i then 0 else -1) := hd fun i hi => by omega
  clear hS0
  go_loopw [23] (fun pv wr => ∃ (p : Nat) (F : List Int), p ≤ M ∧ pv = .int .i64 (p : Int) ∧ LfS w wr A ds.length c g M F Bf ∧ Hid (∀ i, i < p → fa F i = if dP ds.length rev s i then 0 else -1)) (fun pv _ => M - (intOf pv).toNat)
  case atStart => exact ⟨0, _, by omega, by simp, HS0.out, HFL0⟩
  case round =>
    clear HS0 HFL0
    obtain ⟨p, F, hp, rfl, hS, HFA⟩ := hrel
    have HS := hd hS
    by_cases hlt : p < M
    · have hplt : (p : Int) < (M : Int) := by omega
      have hp0 : (0 : Int) ≤ (p : Int) := by omega
      have hpu := u64w p (by omega)
      obtain ⟨c0, c1⟩ := hS.cells
      obtain ⟨⟨u1, a1⟩, a2, hS1⟩ := hS.put hlt (-1)
      obtain ⟨d0, d1⟩ := hS1.cells
      obtain ⟨⟨u2, b1⟩, b2, hS2⟩ := hS1.put hlt 0
      have HS1 := hd hS1
      have HS2 := hd hS2
      have hpF : p < F.length := by rw [hS.fl]; exact hlt
      have HFS : Hid (∀ i, i < p + 1 → fa (F.set p (-1)) i = if i = p then -1 else if dP ds.length rev s i then 0 else -1) := hd fun i hi => by
        rw [fa_set hpF]
        by_cases e : i = p
        · rw [if_pos e, if_pos e]
        · rw [if_neg e, if_neg e]; exact HFA.out i (by omega)
      have HF0 : Hid (dP ds.length rev s p = false → ∀ i, i < p + 1 → fa (F.set p (-1)) i = if dP ds.length rev s i then 0 else -1) := hd fun hd0 i hi => by
        rw [HFS.out i hi]
        by_cases e : i = p
        · subst e; rw [if_pos rfl, hd0]; rfl
        · rw [if_neg e]
      have HF1 : Hid (dP ds.length rev s p = true → ∀ i, i < p + 1 → fa ((F.set p (-1)).set p 0) i = if dP ds.length rev s i then 0 else -1) := hd fun hd1 i hi => by
        rw [fa_set (by rw [List.length_set]; exact hpF)]
        by_cases e : i = p
        · subst e; rw [if_pos rfl, hd1]; rfl
        · rw [if_neg e, HFS.out i hi, if_neg e]
      have HDv := hd (HDP.out p)
      have HC := hd (fun w' => HSZ.out w' p (by omega))
      have HGp := hd (fun w' hx => HGO.out w' hx p (by omega))
      clear hS hS1 hS2 HFS
      by_cases hcs : cnt p ≤ s
      · have hcI : ((cnt p : Nat) : Int) ≤ (s : Int) := by omega
        have HD2 : Hid (dP ds.length rev s p = goalB ds.length rev p) := hd (by rw [HDv.out, decide_eq_true hcs, Bool.and_true])
        clear hcs
        obtain ⟨q, hq⟩ : ∃ q, goalB ds.length rev p = q := ⟨_, rfl⟩
        rw [hq] at HD2 HGp
        clear hq
        generalize cnt p = cp at *
        cases q
        · have HF3 := hd (HF0.out HD2.out)
          go_wp2_with fail
          refine (HC.out _).mono ?_
          rintro e w5 ⟨rfl, rfl⟩
          go_wp2_with fail
          refine (HGp.out _ HS1.out.x).mono ?_
          rintro e w5 ⟨rfl, hx5⟩
          have HS5 := hd (HS1.out.ext hx5)
          clear hx5
          go_wp2
          go_roundw
          case rel => exact ⟨p + 1, _, by omega, by go_num, HS5.out, HF3⟩
          case measure => simp [intOf]; omega
        · have HF3 := hd (HF1.out HD2.out)
          go_wp2_with fail
          refine (HC.out _).mono ?_
          rintro e w5 ⟨rfl, rfl⟩
          go_wp2_with fail
          refine (HGp.out _ HS1.out.x).mono ?_
          rintro e w5 ⟨rfl, hx5⟩
          have HS5 := hd (HS1.out.ext hx5)
          obtain ⟨e0, e1⟩ := HS5.out.cells
          obtain ⟨⟨u3, f1⟩, f2, hS6⟩ := HS5.out.put hlt 0
          have HS6 := hd hS6
          clear hx5 hS6
          go_wp2
          go_roundw
          case rel => exact ⟨p + 1, _, by omega, by go_num, HS6.out, HF3⟩
          case measure => simp [intOf]; omega
      · have hcI : ¬ ((cnt p : Nat) : Int) ≤ (s : Int) := by omega
        have HF3 := hd (HF0.out (by rw [HDv.out, decide_eq_false hcs, Bool.and_false]))
        clear hcs
        generalize cnt p = cp at *
        go_wp2_with fail
        refine (HC.out _).mono ?_
        rintro e w5 ⟨rfl, rfl⟩
        go_wp2
        go_roundw
        case rel => exact ⟨p + 1, _, by omega, by go_num, HS1.out, HF3⟩
        case measure => simp [intOf]; omega
    · have hpM : p = M := by omega
      have hnlt : ¬ (p : Int) < (M : Int) := by omega
      have HR0 : Hid (Rnd (eP ds ds.length rev s) (dP ds.length rev s) (2 ^ ds.length) 0 F) := hd (by
        rw [HMM.out]; exact Rnd.start hS.fl (fun P hP => HFA.out P (by omega)))
      have HSF := hd hS
      clear hS HFA HS HGO HDP HGG
      have hpM2 : (p : Int) = (M : Int) := by omega
      go_wp2
      go_step3
      go_wp2
      refine wp_loop_ghost_k (fun gk' a' w' => ∃ (x9 x10 x11 x12 x13 x14 x15 x45 x46 x47 x48 x49 x50 x51 x52 x53 x54 x55 x56 x57 x58 x59 x60 x61 x62 x63 x64 x65 x66 x67 x68 x69 x70 x71 x72 x73 x74 x75 x76 x77 x78 x79 x80 x81 x82 x83 x84 x85 x86 x87 x88 x89 x90 x91 x92 x93 x94 x95 x96 x97 x98 x99 : Value) (dl : List Deferred), (∃ (r : Nat) (F : List Int) (B9 : Nat), gk' + r = M + 1 ∧ x9 = .pointer (some ⟨B9, 0, none⟩) ∧ LfS w w' A ds.length c g M F Bf ∧ Boxed w' B9 3 (.int .i64 ((r : Int) + 1)) ∧ Bf < B9 ∧ Rnd (eP ds ds.length rev s) (dP ds.length rev s) (2 ^ ds.length) r F ∧ Marks w.heap.size w'.heap.size dl w') ∧ a' = { tmps := #[.agg #[.slice A ds.length c], .int .i64 (s : Int), .bool rev, .pointer (some ⟨w.heap.size, 0, none⟩), undef, undef, .slice none 0 0, .pointer (some ⟨Bf, 0, none⟩), u8, x9, x10, x11, x12, x13, x14, x15, .pointer (some ⟨w.heap.size, 0, none⟩), .slice A ds.length c, .int .i64 (ds.length : Int), .int .i64 (M : Int), .slice (some ⟨g, 0, none⟩) M M, .slice (some ⟨g, 0, none⟩) M M, .int .i64 (M : Int), .int .i64 (M : Int), .bool false, u25, u26, u27, u28, u29, u30, u31, u32, u33, u34, u35, u36, u37, u38, u39, u40, u41, u42, u43, u44, x45, x46, x47, x48, x49, x50, x51, x52, x53, x54, x55, x56, x57, x58, x59, x60, x61, x62, x63, x64, x65, x66, x67, x68, x69, x70, x71, x72, x73, x74, x75, x76, x77, x78, x79, x80, x81, x82, x83, x84, x85, x86, x87, x88, x89, x90, x91, x92, x93, x94, x95, x96, x97, x98, x99], defers := dl }) (M + 1) ?start ?round
      case start =>
        (repeat apply Exists.intro)
        refine ⟨?_, rfl⟩
        exact ⟨0, F, wr.heap.size, by omega, rfl, HSF.out.ext (Ext.new _ _), Boxed.new _ _ _, HSF.out.bf.lt, HR0.out, Marks.nil⟩
      case round =>
        clear HSF HR0 hpM hnlt hpM2 hp
        intro gk _ wr hinv
        obtain ⟨x9, hinv⟩ := hinv
        obtain ⟨x10, hinv⟩ := hinv
        obtain ⟨x11, hinv⟩ := hinv
        obtain ⟨x12, hinv⟩ := hinv
        obtain ⟨x13, hinv⟩ := hinv
        obtain ⟨x14, hinv⟩ := hinv
        obtain ⟨x15, hinv⟩ := hinv
        obtain ⟨x45, hinv⟩ := hinv
        obtain ⟨x46, hinv⟩ := hinv
        obtain ⟨x47, hinv⟩ := hinv
        obtain ⟨x48, hinv⟩ := hinv
        obtain ⟨x49, hinv⟩ := hinv
        obtain ⟨x50, hinv⟩ := hinv
        obtain ⟨x51, hinv⟩ := hinv
        obtain ⟨x52, hinv⟩ := hinv
        obtain ⟨x53, hinv⟩ := hinv
        obtain ⟨x54, hinv⟩ := hinv
        obtain ⟨x55, hinv⟩ := hinv
        obtain ⟨x56, hinv⟩ := hinv
        obtain ⟨x57, hinv⟩ := hinv
        obtain ⟨x58, hinv⟩ := hinv
        obtain ⟨x59, hinv⟩ := hinv
        obtain ⟨x60, hinv⟩ := hinv
        obtain ⟨x61, hinv⟩ := hinv
        obtain ⟨x62, hinv⟩ := hinv
        obtain ⟨x63, hinv⟩ := hinv
        obtain ⟨x64, hinv⟩ := hinv
        obtain ⟨x65, hinv⟩ := hinv
        obtain ⟨x66, hinv⟩ := hinv
        obtain ⟨x67, hinv⟩ := hinv
        obtain ⟨x68, hinv⟩ := hinv
        obtain ⟨x69, hinv⟩ := hinv
        obtain ⟨x70, hinv⟩ := hinv
        obtain ⟨x71, hinv⟩ := hinv
        obtain ⟨x72, hinv⟩ := hinv
        obtain ⟨x73, hinv⟩ := hinv
        obtain ⟨x74, hinv⟩ := hinv
        obtain ⟨x75, hinv⟩ := hinv
        obtain ⟨x76, hinv⟩ := hinv
        obtain ⟨x77, hinv⟩ := hinv
        obtain ⟨x78, hinv⟩ := hinv
        obtain ⟨x79, hinv⟩ := hinv
        obtain ⟨x80, hinv⟩ := hinv
        obtain ⟨x81, hinv⟩ := hinv
        obtain ⟨x82, hinv⟩ := hinv
        obtain ⟨x83, hinv⟩ := hinv
        obtain ⟨x84, hinv⟩ := hinv
        obtain ⟨x85, hinv⟩ := hinv
        obtain ⟨x86, hinv⟩ := hinv
        obtain ⟨x87, hinv⟩ := hinv
        obtain ⟨x88, hinv⟩ := hinv
        obtain ⟨x89, hinv⟩ := hinv
        obtain ⟨x90, hinv⟩ := hinv
        obtain ⟨x91, hinv⟩ := hinv
        obtain ⟨x92, hinv⟩ := hinv
        obtain ⟨x93, hinv⟩ := hinv
        obtain ⟨x94, hinv⟩ := hinv
        obtain ⟨x95, hinv⟩ := hinv
        obtain ⟨x96, hinv⟩ := hinv
        obtain ⟨x97, hinv⟩ := hinv
        obtain ⟨x98, hinv⟩ := hinv
        obtain ⟨x99, hinv⟩ := hinv
        obtain ⟨dl, hrel, ha⟩ := hinv
        subst ha
        try dsimp only
        intro _ _ _ _
        obtain ⟨r, F1, B9, hgk, rfl, hS, hb9, hl9, hR, hmk⟩ := hrel
        have HS := hd hS
        have HR := hd hR
        have HMK := hd hmk
        have HB9 := hd hb9
        have c9 := hb9.cell
        obtain ⟨c0, c1⟩ := hS.cells
        have hL0 : LgS w (wr.alloc (.cells #[.slice none 0 0] 44)) A ds.length c g M F1 Bf B9 r wr.heap.size [] wr.heap.size dl :=
          ⟨hS.ext (Ext.new _ _), hb9.alloc _, hl9, ⟨_, Boxed.new _ _ _, ownI_nil _ _ _⟩, hb9.lt, hmk.others ((KeepsOthers.alloc _ _))⟩
        obtain ⟨d0, d1⟩ := hL0.l.cells
        have HL0 := hd hL0
        clear hS hmk hb9 hL0 c0 c1 c9 HS HMK HB9
        obtain ⟨Bx, hBx⟩ : ∃ Bx, wr.heap.size = Bx := ⟨_, rfl⟩
        rw [hBx] at HL0
        go_wp2
        clear hBx
        generalize wr.alloc (.cells #[.slice none 0 0] 44) = W2 at *
        clear d0 d1 hR
        refine wp_loop_ghost_k (fun gk' a' w' => ∃ (y11 y12 y13 y14 y49 y50 y51 y52 y53 y54 y55 y56 y57 y58 y59 y60 y61 y62 y63 y64 y65 y66 y67 y68 y69 y70 y71 y72 y73 y74 y75 y76 y77 y78 y79 y80 y81 y82 y83 : Value) (dl : List Deferred), (∃ i : Nat, gk' + i = M ∧ y49 = .int .i64 (i : Int) ∧ LgS w w' A ds.length c g M F1 Bf B9 r Bx (((List.range i).filter (hitB ds rev s F1 r)).map Int.ofNat) w'.heap.size dl) ∧ a' = { tmps := #[.agg #[.slice A ds.length c], .int .i64 (s : Int), .bool rev, .pointer (some ⟨w.heap.size, 0, none⟩), undef, undef, .slice none 0 0, .pointer (some ⟨Bf, 0, none⟩), u8, .pointer (some ⟨B9, 0, none⟩), .pointer (some ⟨Bx, 0, none⟩), y11, y12, y13, y14, x15, .pointer (some ⟨w.heap.size, 0, none⟩), .slice A ds.length c, .int .i64 (ds.length : Int), .int .i64 (M : Int), .slice (some ⟨g, 0, none⟩) M M, .slice (some ⟨g, 0, none⟩) M M, .int .i64 (M : Int), .int .i64 (M : Int), .bool false, u25, u26, u27, u28, u29, u30, u31, u32, u33, u34, u35, u36, u37, u38, u39, u40, u41, u42, u43, u44, x45, x46, .slice (some ⟨g, 0, none⟩) M M, .int .i64 (M : Int), y49, y50, y51, y52, y53, y54, y55, y56, y57, y58, y59, y60, y61, y62, y63, y64, y65, y66, y67, y68, y69, y70, y71, y72, y73, y74, y75, y76, y77, y78, y79, y80, y81, y82, y83, x84, x85, x86, x87, x88, x89, x90, x91, x92, x93, x94, x95, x96, x97, x98, x99], defers := dl }) M ?start ?round
        case start =>
          (repeat apply Exists.intro)
          refine ⟨?_, rfl⟩
          exact ⟨0, by omega, rfl, HL0.out.top⟩
        case round =>
          clear HL0
          intro gk3 _ wr hinv
          obtain ⟨y11, hinv⟩ := hinv
          obtain ⟨y12, hinv⟩ := hinv
          obtain ⟨y13, hinv⟩ := hinv
          obtain ⟨y14, hinv⟩ := hinv
          obtain ⟨y49, hinv⟩ := hinv
          obtain ⟨y50, hinv⟩ := hinv
          obtain ⟨y51, hinv⟩ := hinv
          obtain ⟨y52, hinv⟩ := hinv
          obtain ⟨y53, hinv⟩ := hinv
          obtain ⟨y54, hinv⟩ := hinv
          obtain ⟨y55, hinv⟩ := hinv
          obtain ⟨y56, hinv⟩ := hinv
          obtain ⟨y57, hinv⟩ := hinv
          obtain ⟨y58, hinv⟩ := hinv
          obtain ⟨y59, hinv⟩ := hinv
          obtain ⟨y60, hinv⟩ := hinv
          obtain ⟨y61, hinv⟩ := hinv
          obtain ⟨y62, hinv⟩ := hinv
          obtain ⟨y63, hinv⟩ := hinv
          obtain ⟨y64, hinv⟩ := hinv
          obtain ⟨y65, hinv⟩ := hinv
          obtain ⟨y66, hinv⟩ := hinv
          obtain ⟨y67, hinv⟩ := hinv
          obtain ⟨y68, hinv⟩ := hinv
          obtain ⟨y69, hinv⟩ := hinv
          obtain ⟨y70, hinv⟩ := hinv
          obtain ⟨y71, hinv⟩ := hinv
          obtain ⟨y72, hinv⟩ := hinv
          obtain ⟨y73, hinv⟩ := hinv
          obtain ⟨y74, hinv⟩ := hinv
          obtain ⟨y75, hinv⟩ := hinv
          obtain ⟨y76, hinv⟩ := hinv
          obtain ⟨y77, hinv⟩ := hinv
          obtain ⟨y78, hinv⟩ := hinv
          obtain ⟨y79, hinv⟩ := hinv
          obtain ⟨y80, hinv⟩ := hinv
          obtain ⟨y81, hinv⟩ := hinv
          obtain ⟨y82, hinv⟩ := hinv
          obtain ⟨y83, hinv⟩ := hinv
          obtain ⟨dl3, hrel, ha⟩ := hinv
          subst ha
          try dsimp only
          intro _ _ _ _
          obtain ⟨i, hgk3, rfl, hL⟩ := hrel
          obtain ⟨gk3', hgk3'⟩ : ∃ k, k = gk3 - 1 := ⟨_, rfl⟩
          have HL := hd hL
          clear hL
          by_cases hlt3 : i < M
          · have hltI : (i : Int) < (M : Int) := by omega
            have hi0 : (0 : Int) ≤ (i : Int) := by omega
            have hiu := u64w i (by omega)
            have HL1 := hd (HL.out.ext (Ext.new wr (.cells #[.int .i64 (i : Int)] 3)))
            obtain ⟨d0, d1⟩ := HL1.out.l.cells
            have dI := HL1.out.l.at_ hlt3
            have cB : (wr.alloc (.cells #[.int .i64 (i : Int)] 3)).cell? ⟨wr.heap.size, 0, none⟩ = some (.int .i64 (i : Int)) := (Boxed.new wr 3 (.int .i64 (i : Int))).cell
            have HFN := hd (filt_succ i (hitB ds rev s F1 r))
            by_cases hneg : fa F1 i < 0
            · by_cases hcs : cnt i ≤ s
              · have hcI : ((cnt i : Nat) : Int) ≤ (s : Int) := by omega
                have HIT := hd (hit_here (ds := ds) (rev := rev) (s := s) (F := F1) (r := r) hneg hcs)
                have HC := hd (fun w' => HSZ.out w' i (by omega))
                generalize cnt i = ci at *
                generalize fa F1 i = fi at *
                clear hcs
                go_wp2_with fail
                refine (HC.out _).mono ?_
                rintro e w5 ⟨rfl, rfl⟩
                go_wp2_with fail
                refine (i_moves _ _ _ _ _).mono ?_
                rintro e w5 ⟨rfl, rfl⟩
                have b11 := Boxed.new wr 3 (.int .i64 (i : Int))
                clear dI d0 d1 cB
                obtain ⟨B11, hB11⟩ : ∃ B, wr.heap.size = B := ⟨_, rfl⟩
                rw [hB11] at b11 HL1 ⊢
                obtain ⟨W3, hW3⟩ : ∃ W3, wr.alloc (.cells #[.int .i64 (i : Int)] 3) = W3 := ⟨_, rfl⟩
                rw [hW3] at b11 HL1 ⊢
                clear hW3 hB11 HL
                have h0 := World.alloc_heap_new W3 (.cells #[.slice A ds.length c] 28)
                have h1 := World.alloc_heap_new (W3.alloc (.cells #[.slice A ds.length c] 28)) (.cells #[.int .u64 (i : Int)] 55)
                have h2 := World.alloc_heap_new ((W3.alloc (.cells #[.slice A ds.length c] 28)).alloc (.cells #[.int .u64 (i : Int)] 55)) (.cells #[.int .i64 (s : Int)] 3)
                have h3 := World.alloc_heap_new (((W3.alloc (.cells #[.slice A ds.length c] 28)).alloc (.cells #[.int .u64 (i : Int)] 55)).alloc (.cells #[.int .i64 (s : Int)] 3)) (.cells #[.bool rev] 4)
                have e1 := Ext.new (W3.alloc (.cells #[.slice A ds.length c] 28)) (.cells #[.int .u64 (i : Int)] 55)
                have e2 := Ext.new ((W3.alloc (.cells #[.slice A ds.length c] 28)).alloc (.cells #[.int .u64 (i : Int)] 55)) (.cells #[.int .i64 (s : Int)] 3)
                have e3 := Ext.new (((W3.alloc (.cells #[.slice A ds.length c] 28)).alloc (.cells #[.int .u64 (i : Int)] 55)).alloc (.cells #[.int .i64 (s : Int)] 3)) (.cells #[.bool rev] 4)
                replace h0 := ((e1.trans e2).trans e3).heap h0
                replace h1 := (e2.trans e3).heap h1
                replace h2 := e3.heap h2
                have hx4 : Ext W3 ((((W3.alloc (.cells #[.slice A ds.length c] 28)).alloc (.cells #[.int .u64 (i : Int)] 55)).alloc (.cells #[.int .i64 (s : Int)] 3)).alloc (.cells #[.bool rev] 4)) := (((Ext.new _ _).trans e1).trans e2).trans e3
                simp only [World.size_alloc] at h1 h2 h3
                clear e1 e2 e3
                obtain ⟨W4, hW4⟩ : ∃ W4, (((W3.alloc (.cells #[.slice A ds.length c] 28)).alloc (.cells #[.int .u64 (i : Int)] 55)).alloc (.cells #[.int .i64 (s : Int)] 3)).alloc (.cells #[.bool rev] 4) = W4 := ⟨_, rfl⟩
                rw [hW4] at h0 h1 h2 h3 hx4 ⊢
                clear hW4
                obtain ⟨B, hB⟩ : ∃ B, W3.heap.size = B := ⟨_, rfl⟩
                rw [hB] at h0 h1 h2 h3 ⊢
                clear hB
                have HB11 := hd (hx4.heap b11)
                have HL4 := hd ((HL1.out.ext hx4).top)
                have HRD := hd (HV.out.ext HL4.out.l.x)
                have HBB := hd (And.intro h0 (And.intro h1 (And.intro h2 h3)))
                clear h0 h1 h2 h3 hx4 b11 HL1 W3
                go_wp2
                clear hcI
                generalize decide (0 ≤ fi) = b56
                refine (wpIn_wide (n := 8)).1 ?_
                refine wpIn_rangeFunc_ownH rfl (by decide) (gf := 46) (lb := #[.pointer (some ⟨B, 0, none⟩), .pointer (some ⟨B + 1, 0, none⟩), .pointer (some ⟨B + 1 + 1 + 1, 0, none⟩), .pointer (some ⟨B + 1 + 1, 0, none⟩)]) rfl trivial (enters_of Try.func46 (by kernel_rfl) rfl)
                  (moves_stops 7 (by decide) B ds s i rev HG.out HB.out (by rw [HMM.out]; exact hlt3) A c W4 HRD.out HBB.out.1 HBB.out.2.1 HBB.out.2.2.1 HBB.out.2.2.2)
                  (fun h k => h.trans k) (belowK_b (Nat.le_refl _)) (Below.refl _ _) (fun _ => rfl)
                  (fun pre W => (LgS w W A ds.length c g M F1 Bf B9 r Bx (((List.range i).filter (hitB ds rev s F1 r)).map Int.ofNat) W4.heap.size dl3 ∧ Boxed W B11 3 (.int .i64 (i : Int))) ∧ pre.any (hitM F1 r) = false)
                  (fun c' pre W => c' = .exit 6 ∧ pre.any (hitM F1 r) = true ∧ LgS w W A ds.length c g M F1 Bf B9 r Bx (((List.range i).filter (hitB ds rev s F1 r)).map Int.ofNat ++ [(i : Int)]) W4.heap.size dl3)
                  (fun pre X Y row hs hg hr => ⟨⟨hs.1.1.turn HL4.out.l.x.size hg hr, boxed_own _ _ (fun _ : Unit => _) () X Y row hs.1.2 hg (fun k e => (hr k e).2)⟩, hs.2⟩)
                  (fun c' pre X Y row hs hg hr => ⟨hs.1, hs.2.1, hs.2.2.turn HL4.out.l.x.size hg hr⟩)
                  ⟨⟨HL4.out, HB11.out⟩, rfl⟩
                  (fun x a' _ => a' = { tmps := #[.agg #[.slice A ds.length c], .int .i64 (s : Int), .bool rev, .pointer (some ⟨w.heap.size, 0, none⟩), undef, undef, .slice none 0 0, .pointer (some ⟨Bf, 0, none⟩), u8, .pointer (some ⟨B9, 0, none⟩), .pointer (some ⟨Bx, 0, none⟩), .pointer (some ⟨B11, 0, none⟩), y12, .int .u64 (x.1.2.2 : Int), y14, x15, .pointer (some ⟨w.heap.size, 0, none⟩), .slice A ds.length c, .int .i64 (ds.length : Int), .int .i64 (M : Int), .slice (some ⟨g, 0, none⟩) M M, .slice (some ⟨g, 0, none⟩) M M, .int .i64 (M : Int), .int .i64 (M : Int), .bool false, u25, u26, u27, u28, u29, u30, u31, u32, u33, u34, u35, u36, u37, u38, u39, u40, u41, u42, u43, u44, x45, x46, .slice (some ⟨g, 0, none⟩) M M, .int .i64 (M : Int), .int .i64 (i : Int), .bool true, .int .i64 (i : Int), .slice (some ⟨g, 0, none⟩) M M, .int .i64 (i : Int), .pointer (some ⟨g, i, none⟩), .int .i64 fi, .bool b56, .bool b56, .int .i64 (i : Int), .int .u64 (i : Int), .int .i64 (ci : Int), .int .i64 (s : Int), .bool false, .bool b56, .agg #[.slice A ds.length c], .int .i64 (i : Int), .int .u64 (i : Int), .int .i64 (s : Int), .bool rev, .func (.func 46) #[] #[.pointer (some ⟨B, 0, none⟩), .pointer (some ⟨B + 1, 0, none⟩), .pointer (some ⟨B + 1 + 1 + 1, 0, none⟩), .pointer (some ⟨B + 1 + 1, 0, none⟩)], .agg #[.int .i64 ((x.1.1 : Int) + 1), .int .i64 (x.1.2.1 : Int)], .int .u64 (x.1.2.2 : Int), y72, y73, y74, y75, y76, y77, y78, y79, y80, y81, y82, y83, x84, x85, x86, x87, x88, x89, x90, x91, x92, x93, x94, x95, x96, x97, x98, x99], defers := [] })
                  (fun _ _ _ _ _ _ hs _ _ => hs)
                  ?assign ?body ?done ?stop
                case assign =>
                  rintro l pre ⟨⟨j, y, Q⟩, hm⟩ W K hi hK
                  dsimp only [mvE] at *
                  gi_wp2
                  exact hK _ _ (KeepsFrom.refl _ _) (Below.refl _ _) hi rfl
                case body =>
                  rintro l pre ⟨⟨j, y, Q⟩, hm⟩ a' W hl ⟨rr, hrr⟩ ⟨⟨hLW, hb⟩, hpre⟩ rfl hlt
                  obtain ⟨-, k2, -, k4, -⟩ := okA_iff.1 hm
                  dsimp only at k2 k4
                  have hQM : Q < M := by
                    have := flip_lt (n := ds.length) (P := i) (x := y) (by rw [HMM.out]; exact hlt3) k2
                    rw [HMM.out] at this
                    rw [k4]; exact this
                  clear k2 k4 hlt
                  have HLW := hd hLW
                  have HB := hd hb
                  have HPRE := hd hpre
                  obtain ⟨c0, c1⟩ := hLW.l.cells
                  have cQ := hLW.l.at_ hQM
                  have c9 := hLW.b9.cell
                  have HHM : Hid (hitM (ds := ds) (rev := rev) (s := s) (P := i) F1 r ⟨(j, y, Q), hm⟩ = decide (fa F1 Q = (r : Int))) := hd rfl
                  have hr0 : (0 : Int) ≤ (r : Int) := by omega
                  have hr1 : (r : Int) ≤ 1025 := by omega
                  have hQ0 : (0 : Int) ≤ (Q : Int) := by omega
                  have hQ1 : (Q : Int) < (M : Int) := by omega
                  clear hLW hb hpre hrr
                  by_cases hit : fa F1 Q = (r : Int)
                  · have HHM2 := hd (HHM.out.trans (decide_eq_true hit))
                    rw [hit] at cQ
                    clear hit HHM
                    obtain ⟨v, hvB, hvO⟩ := HLW.out.bx
                    have hlen : (((List.range i).filter (hitB ds rev s F1 r)).map Int.ofNat).length ≤ i := by
                      rw [List.length_map]; exact Nat.le_trans (List.length_filter_le _ _) (by simp)
                    generalize ((List.range i).filter (hitB ds rev s F1 r)).map Int.ofNat = fs at *
                    obtain ⟨Av, cv, rfl, HVO⟩ := OwnI.form hvO
                    have HVB := hd hvB
                    clear hvO hvB
                    gi_wp2
                    refine region_inRound (F := Fence.wide) rfl (by kernel_rfl) (by kernel_rfl) (by kernel_rfl) ?_
                    repeat (gi_big_quiet_step (fail))
                    refine wpQuietIn_nil ?_
                    rintro _ ⟨nq, rfl⟩
                    have K5 : Hid (KeepsOthers W (W.drewN nq)) := hd ⟨Nat.le_refl _, fun _ _ h _ => h⟩
                    have HL5 := hd (HLW.out.ext ((Ext.refl W).drewN nq))
                    have HVB5 : Hid (Boxed (W.drewN nq) Bx 44 (.slice Av fs.length cv)) := hd HVB.out
                    have HVO5 := hd (own_ext HVO.out ((Ext.refl W).drewN nq))
                    have HB5 : Hid (Boxed (W.drewN nq) B11 3 (.int .i64 (i : Int))) := hd HB.out
                    clear c0 c1 cQ c9 HLW HVB HVO HB
                    generalize W.drewN nq = W5 at *
                    have cX := HVB5.out.cell
                    have c11 := HB5.out.cell
                    have hszW : B9 + 1 ≤ (W5.alloc (.cells #[.int .i64 (i : Int)] 3)).heap.size := by have := HL5.out.b9.lt; simp; omega
                    have hbm1 : fs.length + 1 ≤ maxLen := by unfold maxLen; omega
                    have hbm2 : (fs.length + 1) * 8 ≤ 140737488355328 := by omega
                    have one1 : ∀ u ∈ [Value.int .i64 (i : Int)], u.oneCell' = true := by simp [Value.oneCell']
                    obtain ⟨i0, hii, hz0, hz1, hz2⟩ := info_parts info_int
                    gi_wp2_with (gi_at_builtin; refine wpListIn_append_own _ rfl _ _ 44 rfl (B9 + 1) 3 i0 (.int .i64 0) 1 8 Try.underlying44 hii hz0 hz1 hz2 rfl (by decide) _ _ _ rfl (own_ext HVO5.out (Ext.new W5 _)) ⟨W5.heap.size, 0, none⟩ 1 1 [.int .i64 (i : Int)] rfl rfl (cell_one_new _ _ _) one1 hbm1 hbm2 hszW ?_; intro v' w2 hown2 hgrow2 _; obtain ⟨g', cap', rfl⟩ := ownsRow_succ hown2; have hoI : OwnI w2 (B9 + 1) 3 (.slice (some ⟨g', 0, none⟩) (fs.length + 1) cap') (fs ++ [(i : Int)]) := (by unfold OwnI; rw [ints_snoc, List.length_append]; exact hown2); obtain ⟨hv1, hL6, hK6⟩ := HL5.out.push HVB5.out HVO5.out hoI hgrow2; have hc1 := hv1.cell; have hf1 := hv1.frozen)
                    refine ⟨(K5.out.trans hK6).from _, rfl, ?_, hL6⟩
                    rw [List.any_append, HPRE.out, Bool.false_or, List.any_cons, HHM2.out]; rfl
                  · have HHM2 := hd (HHM.out.trans (decide_eq_false hit))
                    clear HHM
                    generalize fa F1 Q = fq at *
                    gi_wp2
                    refine region_inRound (F := Fence.wide) rfl (by kernel_rfl) (by kernel_rfl) (by kernel_rfl) ?_
                    repeat (gi_big_quiet_step (fail))
                    refine wpQuietIn_nil ?_
                    rintro _ ⟨nq, rfl⟩
                    gi_wp2
                    refine ⟨⟨Nat.le_refl _, fun _ _ _ h _ => h⟩, ⟨rfl, rfl, rfl, Nat.le_refl _, fun _ _ => rfl⟩, ⟨⟨HLW.out.ext ((Ext.refl W).drewN nq), HB.out⟩, ?_⟩⟩
                    rw [List.any_append, HPRE.out, Bool.false_or, List.any_cons, HHM2.out]; rfl
                case done =>
                  rintro D ys W hD rfl ⟨⟨hL, -⟩, hany⟩ hK
                  have HX := hd (HFN.out.trans (by rw [if_neg (by rw [HIT.out, hany]; decide), List.append_nil]))
                  have HL8 := hd (hL.more HL4.out.l.x.size hD hK)
                  clear hL hany
                  go_wp2
                  go_roundg gk3'
                  case measure => omega
                  case rel => exact ⟨i + 1, by omega, by go_num, by rw [HX.out]; exact HL8.out⟩
                case stop =>
                  rintro D c' pre W hD ⟨k, -, hpre⟩ ⟨rfl, hany, hL⟩ hK
                  have hall : (mvU ds ds.length rev s i (2 * ds.length)).any (hitM F1 r) = true := by
                    rw [hpre] at hany
                    obtain ⟨m, -, hm⟩ := List.any_eq_true.1 hany
                    exact any_mvU.2 ⟨m, hm⟩
                  have HX := hd (HFN.out.trans (by rw [if_pos (by rw [HIT.out, hall])]))
                  have HL8 := hd (hL.more HL4.out.l.x.size hD hK)
                  clear hL hany hall hpre
                  refine (wpIn_wide (n := 8)).2 ?_
                  go_wp2
                  go_roundg gk3'
                  case measure => omega
                  case rel => exact ⟨i + 1, by omega, by go_num, by rw [HX.out]; exact HL8.out⟩
              · have hcI : ¬ ((cnt i : Nat) : Int) ≤ (s : Int) := by omega
                have HX := hd (HFN.out.trans (by rw [if_neg (by rw [hit_no (.inr hcs)]; decide), List.append_nil]))
                have HC := hd (fun w' => HSZ.out w' i (by omega))
                generalize cnt i = ci at *
                generalize fa F1 i = fi at *
                clear hcs
                go_wp2_with fail
                refine (HC.out _).mono ?_
                rintro e w5 ⟨rfl, rfl⟩
                go_wp2
                go_roundg gk3'
                case measure => omega
                case rel => exact ⟨i + 1, by omega, by go_num, by rw [HX.out]; exact HL1.out.top⟩
            · have HX := hd (HFN.out.trans (by rw [if_neg (by rw [hit_no (.inl hneg)]; decide), List.append_nil]))
              generalize fa F1 i = fi at *
              go_wp2
              go_roundg gk3'
              case measure => omega
              case rel => exact ⟨i + 1, by omega, by go_num, by rw [HX.out]; exact HL1.out.top⟩
          · obtain rfl : i = M := by omega
            have hnlt3 : ¬ (i : Int) < (i : Int) := by omega
            obtain ⟨Lf, hLf⟩ : ∃ L, (List.range i).filter (hitB ds rev s F1 r) = L := ⟨_, rfl⟩
            have HLF := hd hLf
            rw [hLf] at HL
            clear hLf
            obtain ⟨v, hvB, hvO⟩ := HL.out.bx
            obtain ⟨Av, cv, rfl, HVO⟩ := OwnI.form hvO
            have cX := hvB.cell
            rw [List.length_map] at cX HVO
            obtain ⟨c0, c1⟩ := HL.out.l.cells
            clear hvO hvB
            by_cases hemp : Lf = []
            · subst hemp
              have HFIN := hd (round_last HMM.out HR.out HLF.out)
              go_wp2
              refine HL.out.mks.leaves (T := fun W => OwnI W (w.heap.size + 1) 3 (.slice (some ⟨g, 0, none⟩) i i) F1 ∧ Ext w W) (fun W h => ⟨_, results_tmp rfl _ _ _, _, _, rfl, own_down h.1 (Nat.le_succ _), HFIN.out, h.2⟩) (fun W D hlo hk h => ⟨ownsRow_putObj h.1 _ hk rfl, Below.trans h.2 (belowK_b (w := w) (Nat.le_refl _) W D _ _ hlo hk rfl rfl)⟩) ⟨HL.out.l.f, HL.out.l.x⟩
            · have hne : 0 < Lf.length := List.length_pos_iff.2 hemp
              have HNE := hd hemp
              clear hemp
              have HRM := hd (round_more HMM.out HR.out (by rw [HLF.out]; exact HNE.out))
              have HRN := hd (round_next HMM.out HR.out)
              rw [HLF.out] at HRN
              have HBD : Hid (∀ j, (hj : j < Lf.length) → Lf[j] < i) := hd fun j hj => by
                have hm : Lf[j] ∈ (List.range i).filter (hitB ds rev s F1 r) := by rw [HLF.out]; exact List.getElem_mem hj
                exact List.mem_range.1 (List.mem_filter.1 hm).1
              have hleni : Lf.length ≤ i := by
                rw [← HLF.out]; exact Nat.le_trans (List.length_filter_le _ _) (by simp)
              have HPT : Hid (∀ k, (hk : k < Lf.length) → putF F1 ((r : Int) + 1) (Lf.take (k + 1)) = (putF F1 ((r : Int) + 1) (Lf.take k)).set Lf[k] ((r : Int) + 1)) := hd fun k hk => by rw [List.take_succ_eq_append_getElem hk, putF_snoc]
              have HL0 : Hid (LgS w wr A ds.length c g i (putF F1 ((r : Int) + 1) (Lf.take 0)) Bf B9 r Bx (Lf.map Int.ofNat) wr.heap.size dl3) := hd HL.out
              have HEL : Hid (∀ (wr' : World), OwnI wr' (B9 + 1) 3 (.slice Av Lf.length cv) (Lf.map Int.ofNat) → ∀ j, (hj : j < Lf.length) → ∃ a, Av = some a ∧ wr'.cell? (a.add j) = some (.int .i64 (Lf[j] : Int))) := hd fun wr' ho j hj => by
                obtain ⟨a, e, h⟩ := RdI.at_ (hd (OwnI.rd ho)) (k := j) (by rw [List.length_map]; exact hj)
                exact ⟨a, e, by rw [h, List.getElem_map]; rfl⟩
              clear HL
              go_wp2
              clear c0 c1 cX
              go_loopw [89] (fun kv wr' => ∃ k : Nat, k ≤ Lf.length ∧ kv = .int .i64 (k : Int) ∧ LgS w wr' A ds.length c g i (putF F1 ((r : Int) + 1) (Lf.take k)) Bf B9 r Bx (Lf.map Int.ofNat) wr'.heap.size dl3 ∧ OwnI wr' (B9 + 1) 3 (.slice Av Lf.length cv) (Lf.map Int.ofNat)) (fun kv _ => Lf.length - (intOf kv).toNat)
              case atStart => exact ⟨0, by omega, by simp, HL0.out, HVO.out⟩
              case round =>
                clear HL0 HVO
                obtain ⟨k, hk, rfl, hL, ho⟩ := hrel
                obtain ⟨c0, c1⟩ := hL.l.cells
                have c9 := hL.b9.cell
                by_cases hlt4 : k < Lf.length
                · obtain ⟨a, rfl, hc⟩ := HEL.out _ ho k hlt4
                  have hb := HBD.out k hlt4
                  have HP := hd (HPT.out k hlt4)
                  have HO4 := hd (own_setLow ho (g := g) (i := Lf[k]) (x := .int .i64 ((r : Int) + 1)) (by have := hL.l.gb; omega))
                  obtain ⟨⟨u0, a1⟩, a2, hL2⟩ := hL.put hb ((r : Int) + 1)
                  have HL2 := hd hL2.top
                  have hq0 : (0 : Int) ≤ (Lf[k] : Int) := by omega
                  have hq1 : (Lf[k] : Int) < (i : Int) := by omega
                  clear hL hL2 ho HEL HBD HPT
                  generalize Lf[k] = q at *
                  go_wp2
                  go_roundw
                  case rel => exact ⟨k + 1, by omega, by go_num, by rw [HP.out]; exact HL2.out, HO4.out⟩
                  case measure => simp [intOf]; omega
                · obtain rfl : k = Lf.length := by omega
                  rw [List.take_length] at hL
                  have HL := hd hL
                  have hr1 : (r : Int) + 1 ≤ 1024 := by have := HRM.out; omega
                  have hr0 : (0 : Int) ≤ (r : Int) := by omega
                  have cN := (Boxed.new wr 3 (.int .i64 ((r : Int) + 1))).cell
                  have fN := (Boxed.new wr 3 (.int .i64 ((r : Int) + 1))).frozen
                  have hgk1 : 1 ≤ gk := by have := HRM.out; omega
                  obtain ⟨gk', hgk'⟩ : ∃ k, k = gk - 1 := ⟨_, rfl⟩
                  clear hL ho c0 c1 HEL HBD HPT
                  go_wp2
                  go_roundg gk'
                  case measure => omega
                  case rel => exact ⟨r + 1, _, wr.heap.size, by omega, rfl, HL.out.l.ext (Ext.new _ _), Boxed.new _ _ _, HL.out.l.bf.lt, HRN.out, (HL.out.mks.others (KeepsOthers.alloc _ _)).top⟩
end Go.Proofs.Ytapgpjhogdmjbaa
