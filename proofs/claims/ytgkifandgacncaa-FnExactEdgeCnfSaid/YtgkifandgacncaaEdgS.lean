/-
  EdgeCnf: the reference's side. Conditions: none but the machine's integers.
-/
import Derived.Test.YtgkifandgacncaaEdgT
import Derived.Test.YtgkifandgacncaaSink
namespace Go.Proofs.Ytgkifandgacncaa
open Go.RowKit
def RetEg (w : World) (f : Cnf) (n : Int) (q : Bool) : Ending → World → Prop := fun e w' => ∃ u, e = .returned (.tuple #[u, .int .i64 n, .bool q]) ∧ Own_Cnf w' w.heap.size w'.heap.size u f ∧ Ext w w'
theorem RetEg.zero {w w' : World} {n : Int} (hx : Ext w w') (hq : inB n 2 3 = false) : RetEg w (edgeV n) (edgeK n) (edgeB n) (.returned (.tuple #[.agg #[.int .i64 0, .slice none 0 0], .int .i64 0, .bool false])) w' := by
  unfold edgeV edgeK edgeB
  rw [hq]
  exact ⟨_, rfl, ⟨_, rfl, ownSS_nil _ _ _ _ _⟩, hx⟩
theorem numE_succ {m u : Nat} (h : 1 ≤ u) : numE m (u + 1) = numE m u + (m - u) := by
  conv => lhs; unfold numE
  rw [if_neg (by omega)]
theorem ownI_lit1 (W : World) {base : Nat} (x : Int) (hb : base ≤ W.heap.size) : OwnI (W.alloc (.cells #[.int .i64 x] 3)) base 3 (.slice (some ⟨W.heap.size, 0, none⟩) 1 1) [x] :=
  own_lit W base 3 1 #[.int .i64 x] 1 hb (by unfold maxLen; omega) rfl
theorem ownI_lit2 (W : World) {base : Nat} (x y : Int) (hb : base ≤ W.heap.size) : OwnI (W.alloc (.cells #[.int .i64 x, .int .i64 y] 3)) base 3 (.slice (some ⟨W.heap.size, 0, none⟩) 2 2) [x, y] :=
  own_lit W base 3 1 #[.int .i64 x, .int .i64 y] 2 hb (by unfold maxLen; omega) rfl
theorem ownI_lit3 (W : World) {base : Nat} (x y z : Int) (hb : base ≤ W.heap.size) : OwnI (W.alloc (.cells #[.int .i64 x, .int .i64 y, .int .i64 z] 3)) base 3 (.slice (some ⟨W.heap.size, 0, none⟩) 3 3) [x, y, z] :=
  own_lit W base 3 1 #[.int .i64 x, .int .i64 y, .int .i64 z] 3 hb (by unfold maxLen; omega) rfl
theorem edg_mul {m : Nat} (h : 2 ≤ m ∧ m ≤ 3) : ∃ z : Int, (m : Int) * ((m : Int) - 1) = z ∧ z / 2 = pM m ∧ 2 ≤ z ∧ z ≤ 6 := by
  rcases two_three h with rfl | rfl
  · exact ⟨2, by decide, by decide, by decide, by decide⟩
  · exact ⟨6, by decide, by decide, by decide, by decide⟩
set_option maxRecDepth 100000 in
set_option maxHeartbeats 12800000 in
theorem s_EdgeCnf (n : Int) (w : World) (_ : I64 n) : Calls Try.prog 15 #[.int .i64 n] w (RetEg w (edgeV n) (edgeK n) (edgeB n)) := by
  obtain ⟨q0, hq0⟩ : ∃ q, inB n 2 3 = q := ⟨_, rfl⟩
  have HQ0 := hd hq0
  cases q0
  · have HB := hd (blk_new (w := w) (.cells #[.int .i64 0, .slice none 0 0] 29) rfl)
    obtain ⟨p0, p1⟩ := blk2 HB.out
    obtain ⟨f0, f1⟩ := blk2f HB.out
    have X1 := hd (Ext.new w (.cells #[.int .i64 0, .slice none 0 0] 29))
    have X4 := hd (ext_set (i := 1) (ext_set (i := 0) X1.out (g := w.heap.size) (Nat.le_refl _) (.int .i64 0)) (g := w.heap.size) (Nat.le_refl _) (.slice none 0 0))
    clear hq0
    go_enter Try.func15, Try.ntmps15
    go_wp2_with fail
    refine (rt (s_l1In n 2 3 _) HQ0).mono ?_
    rintro e w1 ⟨rfl, rfl⟩
    go_wp2
    exact bodyPost_ret (v := .tuple #[.agg #[.int .i64 0, .slice none 0 0], .int .i64 0, .bool false]) (by simp [results, Try.results15, go_sem, p0, p1]) rfl (RetEg.zero (by first | exact X1.out | exact X4.out) HQ0.out)
  · have h0 := inB_iff.1 hq0
    clear hq0
    obtain ⟨m, rfl⟩ := Int.eq_ofNat_of_zero_le (show 0 ≤ n by omega)
    have hm : 2 ≤ m ∧ m ≤ 3 := by omega
    have HV : Hid (edgeV (m : Int) = edF m ∧ edgeK (m : Int) = edK m ∧ edgeB (m : Int) = true) := hd (by unfold edgeV edgeK edgeB; rw [HQ0.out]; exact ⟨rfl, rfl, rfl⟩)
    have HED : Hid (edF m = ⟨pM m + 3 * (m : Int), ed1 m ++ edD m m ++ edE m m⟩ ∧ edK m = ((ed1 m).length : Int) ∧ ed1 m = edA m 2 ++ edB m m ++ edC m m) := hd ⟨rfl, rfl, rfl⟩
    obtain ⟨z, hz1, hz2, hz3, hz4⟩ := edg_mul hm
    have hP := pM_bd hm
    have HA0 : Hid (edA m 0 = []) := hd rfl
    have HAS := hd (fun k => edA_succ m k)
    have HBS := hd (fun k => edB_succ m k)
    have HCS := hd (fun k => edC_succ m k)
    have HDS := hd (fun k => edD_succ m k)
    have HES := hd (fun k => edE_succ m k)
    have HCR := hd (fun u k => edCr_succ m u k)
    have HER := hd (fun u k => edEr_succ m u k)
    have HCX : Hid (∀ u v, edCx m u v = [pE m (u + 1) (v + 1), -(pM m + ((u : Int) + 1)), -(pM m + (m : Int) + ((v : Int) + 1))]) := hd fun _ _ => rfl
    have HEX : Hid (∀ u v, edEx m u v = [-(pE m (u + 1) (v + 1)), -(pM m + 2 * (m : Int) + ((u : Int) + 1)), -(pM m + 2 * (m : Int) + ((v : Int) + 1))]) := hd fun _ _ => rfl
    have HL1 := hd (ed1_len hm)
    have HLR := hd (edr_len hm)
    have HPB : Hid (∀ u v, u < m → v < m → 0 ≤ pE m (u + 1) (v + 1) ∧ pE m (u + 1) (v + 1) ≤ 3) := hd fun u v h1 h2 => pE_bd hm h1 h2
    have HNS : Hid (∀ u, 1 ≤ u → numE m (u + 1) = numE m u + (m - u)) := hd fun u h => numE_succ h
    have HN1 : Hid (numE m 1 = 0) := hd rfl
    have HNB : Hid (∀ u, u ≤ m + 1 → numE m u ≤ 10) := hd fun u hu => by
      have key : ∀ m ∈ [2, 3], ∀ u ∈ List.range 5, u ≤ m + 1 → numE m u ≤ 10 := by decide
      exact key m (by have := two_three hm; simp; omega) u (List.mem_range.2 (by omega)) hu
    generalize hPM : pM m = P at *
    clear hPM
    subst hz2
    obtain ⟨W1, hW1⟩ : ∃ W1, W1 = w.alloc (.cells #[.int .i64 0, .slice none 0 0] 29) := ⟨_, rfl⟩
    have X0 : Hid (Ext w W1) := hd (by rw [hW1]; exact Ext.new _ _)
    have R0 : Hid (W1.heap[w.heap.size]? = some (.cells #[.int .i64 0, .slice none 0 0] 29)) := hd (by rw [hW1]; exact blk_new _ rfl)
    have HW1 := hd hW1
    have hz0 : w.heap.size + 1 = W1.heap.size := by rw [hW1]; simp
    clear hW1
    go_enter Try.func15, Try.ntmps15
    go_wp2_with fail
    refine (rt (s_l1In (m : Int) 2 3 _) HQ0).mono ?_
    rintro e w1 ⟨rfl, rfl⟩
    rw [← HW1.out]
    go_wp2_with (at_make; refine mkSS W1 (n := m + 1) (nI := (m : Int) + 1) (by omega) rfl _ _ rfl (by rfl) (by rfl) (by omega) ?_; intro w2 Z hZ hx2)
    generalize hPz : z / 2 = P at *
    generalize hB : W1.heap.size = B at *
    clear hPz
    go_loopw [7, 8] (fun nv uv wr => ∃ u : Nat, 1 ≤ u ∧ u ≤ m + 1 ∧ uv = .int .i64 (u : Int) ∧ nv = .int .i64 ((numE m u : Nat) : Int) ∧ TabW wr B B m u ∧ Ext W1 wr) (fun _ uv _ => m + 1 - (intOf uv).toNat)
    case atStart => exact ⟨1, by omega, by omega, rfl, by rw [HN1.out]; rfl, TabW.start hZ, hx2⟩
    case round =>
      clear hZ hx2
      obtain ⟨u, hu1, hu2, rfl, rfl, hT, hx⟩ := hrel
      have HT := hd hT
      have HX := hd hx
      clear hT hx
      by_cases hlt : u ≤ m
      · have hnb := HNB.out u hu2
        have HNU := hd (HNS.out u hu1)
        have HNX : Hid (∀ v : Nat, u + 1 ≤ v → ((numE m u + (v - (u + 1)) : Nat) : Int) + 1 = ((numE m u + (v - u) : Nat) : Int)) := hd fun v hv => by omega
        have HNY : Hid (((numE m u + (u + 1 - (u + 1)) : Nat) : Int) = ((numE m u : Nat) : Int)) := hd (by omega)
        have HNZ : Hid (∀ v : Nat, v + 1 ≤ m + 1 → numE m u + (v - (u + 1)) ≤ 20) := hd fun v hv => by omega
        obtain ⟨wo, rfl⟩ : ∃ wo : World, wo = wr := ⟨_, rfl⟩
        have hsz : W1.heap.size ≤ wo.heap.size := HX.out.size
        go_wp2_with (at_make; refine mkIn wo (n := m + 1) (nI := (m : Int) + 1) (by omega) rfl _ _ rfl (by rfl) (by rfl) (by omega) ?_
                     intro w3 ho3 hx3
                     obtain ⟨⟨u0, s1⟩, s2⟩ := TabW.slot (HT.out.ext hx3) hlt)
        have HU := hd (TabU.start HT.out hlt ho3 hx3)
        have HX3 : Hid (Ext W1 (w3.setCell ⟨B, u, none⟩ (.slice (some ⟨wo.heap.size, 0, none⟩) (m + 1) (m + 1)))) := hd (ext_set (HX.out.trans hx3) (by omega) _)
        clear s1 s2 ho3 hx3
        go_loopw [7, 9] (fun nv vv wr => ∃ v : Nat, u + 1 ≤ v ∧ v ≤ m + 1 ∧ vv = .int .i64 (v : Int) ∧ nv = .int .i64 ((numE m u + (v - (u + 1)) : Nat) : Int) ∧ TabU wr B B m u v wo.heap.size ∧ Ext W1 wr) (fun _ vv _ => m + 1 - (intOf vv).toNat)
        case atStart => exact ⟨u + 1, by omega, by omega, by go_num, by rw [HNY.out], HU.out, HX3.out⟩
        case round =>
          clear HU HX3
          obtain ⟨v, hv1, hv2, rfl, rfl, hU, hx⟩ := hrel
          have HU := hd hU
          have HX5 := hd hx
          clear hU hx
          by_cases hlt2 : v ≤ m
          · have hvi : (v : Int) ≤ (m : Int) := by omega
            obtain ⟨⟨u0, s1⟩, s2, hU2⟩ := TabU.store HU.out (by omega) hlt2 (HNX.out v hv1)
            have HU2 := hd hU2
            have hc := HU.out.cell
            have hnz := HNZ.out v (by omega)
            have HNW : Hid (((numE m u + (v - (u + 1)) : Nat) : Int) + 1 = ((numE m u + (v + 1 - (u + 1)) : Nat) : Int)) := hd (by omega)
            clear hU2
            generalize numE m u + (v - (u + 1)) = a at *
            go_wp2
            go_roundw
            case rel => exact ⟨v + 1, by omega, by omega, by go_num, by rw [← HNW.out], HU2.out, ext_set HX5.out (by omega) _⟩
            case measure => simp [intOf]; omega
          · obtain rfl : v = m + 1 := by omega
            have HNW : Hid (numE m u + (m + 1 - (u + 1)) = numE m (u + 1)) := hd (by rw [HNU.out]; omega)
            go_wp2
            go_roundw
            case rel => exact ⟨u + 1, by omega, by omega, by go_num, by rw [HNW.out], HU.out.done, HX5.out⟩
            case measure => simp [intOf]; omega
      · have hum : ¬ ((u : Int) ≤ (m : Int)) := by omega
        have TR : Hid (TabR wr B m) := hd (by
          have e : u = m + 1 := by omega
          have := HT.out
          rw [e] at this
          exact this.read)
        clear hlt
        obtain ⟨W2, rfl⟩ : ∃ W2 : World, W2 = wr := ⟨_, rfl⟩
        have F0 : Hid (FamB W2 ((W2.alloc (.cells #[] 23)).alloc (.cells #[.int .i64 (P + 3 * (m : Int)), .slice (some ⟨W2.heap.size, 0, none⟩) 0 0] 29)) (W2.heap.size + 1) 29 (P + 3 * (m : Int)) W2.heap.size (.slice (some ⟨W2.heap.size, 0, none⟩) 0 0) (edA m 0)) :=
          hd ⟨blk_new _ (by simp), by rw [HA0.out]; exact ownSS_emp0 (heap_n2 _ _ _) (Nat.le_refl _), (Ext.new _ _).alloc _, by omega, Nat.le_refl _, by simp; omega⟩
        go_wp2
        have HXW := hd HX.out
        clear HX HT
        generalize hbx : W2.heap.size + 1 = bx at *
        have hbx0 : W2.heap.size ≤ bx := by omega
        clear hbx
        generalize hVV : P + 3 * (m : Int) = V at *
        go_loopw [11] (fun iv wr => ∃ (i : Nat) (ov : Value), i ≤ 2 ∧ iv = .int .i64 (i : Int) ∧ FamB W2 wr bx 29 V W2.heap.size ov (edA m i)) (fun iv _ => 2 - (intOf iv).toNat)
        case atStart => exact ⟨0, _, by omega, rfl, F0.out⟩
        case round =>
          clear F0
          obtain ⟨i, ov, hi, rfl, hF⟩ := hrel
          have HF := hd hF
          clear hF
          by_cases hlt : i < 2
          · have hil : (edA m i).length ≤ 30 := by simp [edA]; omega
            have HAN := hd (HAS.out i)
            have him : 0 ≤ (i : Int) * (m : Int) ∧ (i : Int) * (m : Int) ≤ 3 := by
              have : i = 0 ∨ i = 1 := by omega
              rcases this with rfl | rfl <;> simp <;> omega
            generalize himE : (i : Int) * (m : Int) = im at *
            have HSQ : Hid (∀ k : Nat, seqI (P + im + 1) (k + 1) = seqI (P + im + 1) k ++ [P + im + ((k : Int) + 1)]) := hd fun k => by rw [seqI_snoc]; congr 2; omega
            obtain ⟨wo, rfl⟩ : ∃ wo : World, wo = wr := ⟨_, rfl⟩
            have E0 : Hid (OwnI (wo.alloc (.cells #[] 3)) wo.heap.size 3 (.slice (some ⟨wo.heap.size, 0, none⟩) 0 0) (seqI (P + im + 1) 0)) := hd (ownI_lit0 (Nat.le_refl _))
            have hi2 : (i : Int) < 2 := by omega
            go_wp2
            go_loopw [12, 13] (fun cv vv wr => ∃ k : Nat, k ≤ m ∧ vv = .int .i64 ((k : Int) + 1) ∧ OwnI wr wo.heap.size 3 cv (seqI (P + im + 1) k) ∧ Ext wo wr) (fun _ vv _ => m + 1 - (intOf vv).toNat)
            case atStart => exact ⟨0, by omega, by go_num, E0.out, Ext.new _ _⟩
            case round =>
              clear E0
              obtain ⟨k, hk, rfl, ho, hx⟩ := hrel
              have HO := hd ho
              have HX := hd hx
              clear ho hx
              by_cases hlt2 : k < m
              · have hk2 : (k : Int) + 1 ≤ (m : Int) := by omega
                have HSK := hd (HSQ.out k)
                go_wp2_with (at_builtin; refine appI wr HO.out rfl _ _ rfl _ (by rfl) (by rfl) (by simp; omega) HX.out.size ?_; intro v' w9 ho1 hg1 _)
                go_roundw
                case rel => exact ⟨k + 1, by omega, by go_num, by rw [HSK.out]; exact ho1, ext_app HX.out hg1 (ownI_ge HO.out)⟩
                case measure => simp [intOf]; omega
              · have hk2 : ¬ ((k : Int) + 1 ≤ (m : Int)) := by omega
                obtain rfl : k = m := by omega
                obtain ⟨A7, c7, e7, -⟩ := OwnI.form HO.out
                rw [length_seqI] at e7
                subst e7
                obtain ⟨c0, c1⟩ := blk2 (HF.out.on HX.out).blk
                have HRZ := hd ((RowsZ.one HO.out).ext (Ext.new wr (.cells #[.slice A7 k c7] 23)))
                go_wp2_with (at_builtin; refine appFZ (zs := [(.slice A7 k c7, seqI (P + im + 1) k)]) HF.out (by decide) (by decide) (HX.out.trans (Ext.new _ _)) (HRZ.out.hi_size) (Nat.le_refl _) (rdZ_at (us := [.slice A7 k c7]) (heap_n1 _ _) (by simp)) rfl _ _ rfl (by rfl) (by rfl) (by simp; omega) ?_
                             intro L9 A9 c9 w9 _ hb9 HP X9 _
                             obtain ⟨q0, q1⟩ := blk2 hb9
                             obtain ⟨q2, q3⟩ := blk2f hb9
                             have q4 := blk_lt hb9)
                clear q0 q1 q2 q3 c0 c1
                go_roundw
                case rel => exact ⟨i + 1, _, by omega, by go_num, by rw [HAN.out]; exact HP.out⟩
                case measure => simp [intOf]; omega
          · have hi2 : ¬ ((i : Int) < 2) := by omega
            have HF0 : Hid (FamB W2 wr bx 29 V W2.heap.size ov (edA m 2 ++ edB m 0)) := hd (by
              have e2 : i = 2 := by omega
              have := HF.out
              rw [e2] at this
              rw [show edB m 0 = [] from rfl, List.append_nil]; exact this)
            clear HF hlt
            go_wp2
            go_loopw [14] (fun vv wr => ∃ (k : Nat) (ov : Value), k ≤ m ∧ vv = .int .i64 ((k : Int) + 1) ∧ FamB W2 wr bx 29 V W2.heap.size ov (edA m 2 ++ edB m k)) (fun vv _ => m + 1 - (intOf vv).toNat)
            case atStart => exact ⟨0, _, by omega, by go_num, HF0.out⟩
            case round =>
              clear HF0
              obtain ⟨k, ov, hk, rfl, hF⟩ := hrel
              have HF := hd hF
              clear hF
              have hl30 := (HL1.out k hk).1
              obtain ⟨c0, c1⟩ := blk2 HF.out.blk
              by_cases hlt2 : k < m
              · have hk2 : (k : Int) + 1 ≤ (m : Int) := by omega
                have HBN := hd (HBS.out k)
                generalize hx1 : -(P + ((k : Int) + 1)) = x1 at *
                generalize hx2 : -(P + (m : Int) + ((k : Int) + 1)) = x2 at *
                have hw1 : IntKind.i64.wrap (-(P + ((k : Int) + 1))) = x1 := by rw [hx1]; exact IntWalk.i64_in _ (by omega)
                have hw2 : IntKind.i64.wrap (-(P + (m : Int) + ((k : Int) + 1))) = x2 := by rw [hx2]; exact IntWalk.i64_in _ (by omega)
                clear hx1 hx2
                have HRZ := hd ((RowsZ.one (ownI_lit2 wr x1 x2 (Nat.le_refl _))).ext (Ext.new _ (.cells #[.slice (some ⟨wr.heap.size, 0, none⟩) 2 2] 23)))
                go_wp2_with (at_builtin; go_loud (refine appFZ (zs := [(.slice (some ⟨wr.heap.size, 0, none⟩) 2 2, [x1, x2])]) HF.out (by decide) (by decide) ((Ext.new _ _).alloc _) (HRZ.out.hi_size) (Nat.le_refl _) (rdZ_at (b := wr.heap.size + 1) (us := [.slice (some ⟨wr.heap.size, 0, none⟩) 2 2]) (blk_new _ (by simp)) (by simp)) rfl _ _ rfl (by rfl) (by rfl) (by simp at hl30 ⊢; omega) ?_)
                             intro L9 A9 c9 w9 _ hb9 HP X9 _
                             obtain ⟨q0, q1⟩ := blk2 hb9
                             obtain ⟨q2, q3⟩ := blk2f hb9
                             have q4 := blk_lt hb9)
                clear q0 q1 q2 q3 c0 c1
                go_roundw
                case rel => exact ⟨k + 1, _, by omega, by go_num, by rw [HBN.out, ← List.append_assoc]; exact HP.out⟩
                case measure => simp [intOf]; omega
              · have hk2 : ¬ ((k : Int) + 1 ≤ (m : Int)) := by omega
                have ekm : k = m := by omega
                have HF0 : Hid (FamB W2 wr bx 29 V W2.heap.size ov (edA m 2 ++ edB m m ++ edC m 0)) := hd (by
                  have := HF.out
                  rw [ekm] at this
                  rw [show edC m 0 = [] from rfl, List.append_nil]; exact this)
                clear c0 c1 ekm hlt2 HF hl30
                go_wp2
                go_loopw [15] (fun vv wr => ∃ (u : Nat) (ov : Value), u ≤ m ∧ vv = .int .i64 ((u : Int) + 1) ∧ FamB W2 wr bx 29 V W2.heap.size ov (edA m 2 ++ edB m m ++ edC m u)) (fun vv _ => m + 1 - (intOf vv).toNat)
                case atStart => exact ⟨0, _, by omega, by go_num, HF0.out⟩
                case round =>
                  clear HF0
                  obtain ⟨u1, ov1, hu, rfl, hF⟩ := hrel
                  have HF := hd hF
                  clear hF
                  by_cases hlt3 : u1 < m
                  · have hu3 : (u1 : Int) + 1 ≤ (m : Int) := by omega
                    have HCN := hd (HCS.out u1)
                    have HF1 : Hid (FamB W2 wr bx 29 V W2.heap.size ov1 (edA m 2 ++ edB m m ++ edC m u1 ++ edCr m u1 0)) := hd (by rw [show edCr m u1 0 = [] from rfl, List.append_nil]; exact HF.out)
                    clear HF
                    go_wp2
                    go_loopw [16] (fun vv wr => ∃ (v : Nat) (ov : Value), v ≤ m ∧ vv = .int .i64 ((v : Int) + 1) ∧ FamB W2 wr bx 29 V W2.heap.size ov (edA m 2 ++ edB m m ++ edC m u1 ++ edCr m u1 v)) (fun vv _ => m + 1 - (intOf vv).toNat)
                    case atStart => exact ⟨0, _, by omega, by go_num, HF1.out⟩
                    case round =>
                      clear HF1
                      obtain ⟨v1, ov2, hv, rfl, hF⟩ := hrel
                      have HF := hd hF
                      clear hF
                      have hl30 := (HLR.out u1 v1 hlt3 hv).1
                      by_cases hlt4 : v1 < m
                      · have hv4 : (v1 : Int) + 1 ≤ (m : Int) := by omega
                        have HRN := hd (HCR.out u1 v1)
                        by_cases huv : u1 = v1
                        · have huv2 : (u1 : Int) + 1 = (v1 : Int) + 1 := by omega
                          rw [if_pos huv, List.append_nil] at HRN
                          clear huv
                          go_wp2
                          go_roundw
                          case rel => exact ⟨v1 + 1, _, by omega, by go_num, by rw [HRN.out]; exact HF.out⟩
                          case measure => simp [intOf]; omega
                        · have huv2 : ¬ ((u1 : Int) + 1 = (v1 : Int) + 1) := by omega
                          rw [if_neg huv] at HRN
                          obtain ⟨i1, j1, hi1, hij, hj1, hmin, hmax, hpe⟩ := edg_ij hlt3 hlt4 huv
                          obtain ⟨bb, tk1, tk2⟩ := TR.out i1 j1 hi1 hij hj1
                          have hpb := HPB.out u1 v1 hlt3 hlt4
                          have hcxe := HCX.out u1 v1
                          rw [hpe] at tk2
                          generalize pE m (u1 + 1) (v1 + 1) = pe at *
                          have HTR : Hid (∀ w', Ext W2 w' → w'.cell? ⟨B, i1, none⟩ = some (.slice (some ⟨bb, 0, none⟩) (m + 1) (m + 1)) ∧ w'.cell? ⟨bb, j1, none⟩ = some (.int .i64 pe)) := hd fun w' hx => ⟨hx.cell tk1, hx.cell tk2⟩
                          have HMN : Hid (∀ w', Calls Try.prog 37 #[.int .i64 ((u1 : Int) + 1), .int .i64 ((v1 : Int) + 1)] w' (Ret w' (.int .i64 (i1 : Int)))) := hd fun w' => by have := s_l1Least ((u1 : Int) + 1) ((v1 : Int) + 1) w'; rw [hmin] at this; exact this
                          have HMX : Hid (∀ w', Calls Try.prog 38 #[.int .i64 ((u1 : Int) + 1), .int .i64 ((v1 : Int) + 1)] w' (Ret w' (.int .i64 (j1 : Int)))) := hd fun w' => by have := s_l1Most ((u1 : Int) + 1) ((v1 : Int) + 1) w'; rw [hmax] at this; exact this
                          obtain ⟨tc1, tc2⟩ := HTR.out wr HF.out.ext
                          obtain ⟨c0, c1⟩ := blk2 HF.out.blk
                          generalize hx1 : -(P + ((u1 : Int) + 1)) = x1 at *
                          generalize hx2 : -(P + (m : Int) + ((v1 : Int) + 1)) = x2 at *
                          have hwa : IntKind.i64.wrap (P + ((u1 : Int) + 1)) = P + ((u1 : Int) + 1) := IntWalk.i64_in _ (by omega)
                          have hwb : IntKind.i64.wrap (P + (m : Int)) = P + (m : Int) := IntWalk.i64_in _ (by omega)
                          have hwc : IntKind.i64.wrap (P + (m : Int) + ((v1 : Int) + 1)) = P + (m : Int) + ((v1 : Int) + 1) := IntWalk.i64_in _ (by omega)
                          have hw1 : IntKind.i64.wrap (-(P + ((u1 : Int) + 1))) = x1 := by rw [hx1]; exact IntWalk.i64_in _ (by omega)
                          have hw2 : IntKind.i64.wrap (-(P + (m : Int) + ((v1 : Int) + 1))) = x2 := by rw [hx2]; exact IntWalk.i64_in _ (by omega)
                          have HCXE := hd hcxe
                          have hi1m : (i1 : Int) < (m : Int) + 1 := by omega
                          have hj1m : (j1 : Int) < (m : Int) + 1 := by omega
                          have hi1n : i1 < m + 1 := by omega
                          have hj1n : j1 < m + 1 := by omega
                          clear hx1 hx2 hcxe tk1 tk2 hmin hmax hpe huv
                          go_wp2_with fail
                          refine wp_region_sink (fun w' => (w').cell? ⟨bx, 1, none⟩ = some ov2 ∧ (w').cell? ⟨B, i1, none⟩ = some (.slice (some ⟨bb, 0, none⟩) (m + 1) (m + 1)) ∧ (w').cell? ⟨bb, j1, none⟩ = some (.int .i64 pe)) 27 28 #[false, false, false, false, false, false, false, false, false, false, false, false, false, false, false, false, false, false, false, false, false, false, false, false, false, false, false, false] (by kernel_rfl) (by kernel_rfl) (by kernel_rfl) ?_
                          have HS : (wr.drew).cell? ⟨bx, 1, none⟩ = some ov2 ∧ (wr.drew).cell? ⟨B, i1, none⟩ = some (.slice (some ⟨bb, 0, none⟩) (m + 1) (m + 1)) ∧ (wr.drew).cell? ⟨bb, j1, none⟩ = some (.int .i64 pe) := ⟨c1, tc1, tc2⟩
                          refine' ordG_take 0 (oi := _) (v := _) ?_ ?_ ?_ (Or.inl ⟨?_, ?_⟩) ?_ ?_
                          rotate_left 2
                          · (simp only [List.getElem?_toArray, List.getElem?_cons_zero]; rfl)
                          · kernel_rfl
                          · exact fun _ _ _ h => h
                          · rfl
                          · (intro w hSw; (try dsimp only at hSw); go_simp; (try with_reducible rfl))
                          · exact HS
                          (try simp only [Act.put, List.setIfInBounds_toArray, List.set_cons_zero, List.set_cons_succ])
                          refine' ordG_take 1 (oi := _) (v := _) ?_ ?_ ?_ (Or.inl ⟨?_, ?_⟩) ?_ ?_
                          rotate_left 2
                          · (simp only [List.getElem?_toArray, List.getElem?_cons_zero, List.getElem?_cons_succ]; rfl)
                          · kernel_rfl
                          · exact fun _ _ _ h => h
                          · rfl
                          · (intro w hSw; (try dsimp only at hSw); go_simp; (try with_reducible rfl))
                          · exact HS
                          (try simp only [Act.put, List.setIfInBounds_toArray, List.set_cons_zero, List.set_cons_succ])
                          refine' ordG_take 2 (oi := _) (v := _) ?_ ?_ ?_ (Or.inl ⟨?_, ?_⟩) ?_ ?_
                          rotate_left 2
                          · (simp only [List.getElem?_toArray, List.getElem?_cons_zero, List.getElem?_cons_succ]; rfl)
                          · kernel_rfl
                          · exact fun _ _ _ h => h
                          · rfl
                          · (intro w hSw; (try dsimp only at hSw); go_simp; (try with_reducible rfl))
                          · exact HS
                          (try simp only [Act.put, List.setIfInBounds_toArray, List.set_cons_zero, List.set_cons_succ])
                          refine' ordG_take 3 (oi := _) (v := _) ?_ ?_ ?_ (Or.inl ⟨?_, ?_⟩) ?_ ?_
                          rotate_left 2
                          · (simp only [List.getElem?_toArray, List.getElem?_cons_zero, List.getElem?_cons_succ]; rfl)
                          · kernel_rfl
                          · exact fun _ _ _ h => h
                          · rfl
                          · (intro w hSw; (try dsimp only at hSw); go_simp; (try with_reducible rfl))
                          · exact HS
                          (try simp only [Act.put, List.setIfInBounds_toArray, List.set_cons_zero, List.set_cons_succ])
                          refine' ordG_take 4 (oi := _) (v := _) ?_ ?_ ?_ (Or.inl ⟨?_, ?_⟩) ?_ ?_
                          rotate_left 2
                          · (simp only [List.getElem?_toArray, List.getElem?_cons_zero, List.getElem?_cons_succ]; rfl)
                          · kernel_rfl
                          · exact fun _ _ _ h => h
                          · rfl
                          · (intro w hSw; (try dsimp only at hSw); go_simp; (try with_reducible rfl))
                          · exact HS
                          (try simp only [Act.put, List.setIfInBounds_toArray, List.set_cons_zero, List.set_cons_succ])
                          refine' ordG_take 8 (oi := _) (v := _) ?_ ?_ ?_ (Or.inl ⟨?_, ?_⟩) ?_ ?_
                          rotate_left 2
                          · (simp only [List.getElem?_toArray, List.getElem?_cons_zero, List.getElem?_cons_succ]; rfl)
                          · kernel_rfl
                          · exact fun _ _ _ h => h
                          · rfl
                          · (intro w hSw; (try dsimp only at hSw); go_simp; (try with_reducible rfl))
                          · exact HS
                          (try simp only [Act.put, List.setIfInBounds_toArray, List.set_cons_zero, List.set_cons_succ])
                          refine' ordG_take 9 (oi := _) (v := _) ?_ ?_ ?_ (Or.inl ⟨?_, ?_⟩) ?_ ?_
                          rotate_left 2
                          · (simp only [List.getElem?_toArray, List.getElem?_cons_zero, List.getElem?_cons_succ]; rfl)
                          · kernel_rfl
                          · exact fun _ _ _ h => h
                          · rfl
                          · (intro w hSw; (try dsimp only at hSw); go_simp; (try with_reducible rfl))
                          · exact HS
                          (try simp only [Act.put, List.setIfInBounds_toArray, List.set_cons_zero, List.set_cons_succ])
                          refine' ordG_take 13 (oi := _) (v := _) ?_ ?_ ?_ (Or.inl ⟨?_, ?_⟩) ?_ ?_
                          rotate_left 2
                          · (simp only [List.getElem?_toArray, List.getElem?_cons_zero, List.getElem?_cons_succ]; rfl)
                          · kernel_rfl
                          · exact fun _ _ _ h => h
                          · rfl
                          · (intro w hSw; (try dsimp only at hSw); go_simp; (try with_reducible rfl))
                          · exact HS
                          (try simp only [Act.put, List.setIfInBounds_toArray, List.set_cons_zero, List.set_cons_succ])
                          refine' ordG_take 14 (oi := _) (v := _) ?_ ?_ ?_ (Or.inl ⟨?_, ?_⟩) ?_ ?_
                          rotate_left 2
                          · (simp only [List.getElem?_toArray, List.getElem?_cons_zero, List.getElem?_cons_succ]; rfl)
                          · kernel_rfl
                          · exact fun _ _ _ h => h
                          · rfl
                          · (intro w hSw; (try dsimp only at hSw); go_simp; (try with_reducible rfl))
                          · exact HS
                          (try simp only [Act.put, List.setIfInBounds_toArray, List.set_cons_zero, List.set_cons_succ])
                          refine' ordG_take 15 (oi := _) (v := _) ?_ ?_ ?_ (Or.inl ⟨?_, ?_⟩) ?_ ?_
                          rotate_left 2
                          · (simp only [List.getElem?_toArray, List.getElem?_cons_zero, List.getElem?_cons_succ]; rfl)
                          · kernel_rfl
                          · exact fun _ _ _ h => h
                          · rfl
                          · (intro w hSw; (try dsimp only at hSw); go_simp; (try with_reducible rfl))
                          · exact HS
                          (try simp only [Act.put, List.setIfInBounds_toArray, List.set_cons_zero, List.set_cons_succ])
                          refine' ordG_take 16 (oi := _) (v := _) ?_ ?_ ?_ (Or.inl ⟨?_, ?_⟩) ?_ ?_
                          rotate_left 2
                          · (simp only [List.getElem?_toArray, List.getElem?_cons_zero, List.getElem?_cons_succ]; rfl)
                          · kernel_rfl
                          · exact fun _ _ _ h => h
                          · rfl
                          · (intro w hSw; (try dsimp only at hSw); go_simp; (try with_reducible rfl))
                          · exact HS
                          (try simp only [Act.put, List.setIfInBounds_toArray, List.set_cons_zero, List.set_cons_succ])
                          refine' ordG_take 17 (oi := _) (v := _) ?_ ?_ ?_ (Or.inl ⟨?_, ?_⟩) ?_ ?_
                          rotate_left 2
                          · (simp only [List.getElem?_toArray, List.getElem?_cons_zero, List.getElem?_cons_succ]; rfl)
                          · kernel_rfl
                          · exact fun _ _ _ h => h
                          · rfl
                          · (intro w hSw; (try dsimp only at hSw); go_simp; (try with_reducible rfl))
                          · exact HS
                          (try simp only [Act.put, List.setIfInBounds_toArray, List.set_cons_zero, List.set_cons_succ])
                          refine' ordG_take 18 (oi := _) (v := _) ?_ ?_ ?_ (Or.inl ⟨?_, ?_⟩) ?_ ?_
                          rotate_left 2
                          · (simp only [List.getElem?_toArray, List.getElem?_cons_zero, List.getElem?_cons_succ]; rfl)
                          · kernel_rfl
                          · exact fun _ _ _ h => h
                          · rfl
                          · (intro w hSw; (try dsimp only at hSw); go_simp; (try with_reducible rfl))
                          · exact HS
                          (try simp only [Act.put, List.setIfInBounds_toArray, List.set_cons_zero, List.set_cons_succ])
                          refine' ordG_take 19 (oi := _) (v := _) ?_ ?_ ?_ (Or.inl ⟨?_, ?_⟩) ?_ ?_
                          rotate_left 2
                          · (simp only [List.getElem?_toArray, List.getElem?_cons_zero, List.getElem?_cons_succ]; rfl)
                          · kernel_rfl
                          · exact fun _ _ _ h => h
                          · rfl
                          · (intro w hSw; (try dsimp only at hSw); go_simp; (try with_reducible rfl))
                          · exact HS
                          (try simp only [Act.put, List.setIfInBounds_toArray, List.set_cons_zero, List.set_cons_succ])
                          refine' ordG_take 20 (oi := _) (v := _) ?_ ?_ ?_ (Or.inl ⟨?_, ?_⟩) ?_ ?_
                          rotate_left 2
                          · (simp only [List.getElem?_toArray, List.getElem?_cons_zero, List.getElem?_cons_succ]; rfl)
                          · kernel_rfl
                          · exact fun _ _ _ h => h
                          · rfl
                          · (intro w hSw; (try dsimp only at hSw); go_simp; (try with_reducible rfl))
                          · exact HS
                          (try simp only [Act.put, List.setIfInBounds_toArray, List.set_cons_zero, List.set_cons_succ])
                          refine' ordG_take 21 (oi := _) (v := _) ?_ ?_ ?_ (Or.inl ⟨?_, ?_⟩) ?_ ?_
                          rotate_left 2
                          · (simp only [List.getElem?_toArray, List.getElem?_cons_zero, List.getElem?_cons_succ]; rfl)
                          · kernel_rfl
                          · exact fun _ _ _ h => h
                          · rfl
                          · (intro w hSw; (try dsimp only at hSw); go_simp; (try with_reducible rfl))
                          · exact HS
                          (try simp only [Act.put, List.setIfInBounds_toArray, List.set_cons_zero, List.set_cons_succ])
                          refine' ordG_take 22 (oi := _) (v := _) ?_ ?_ ?_ (Or.inl ⟨?_, ?_⟩) ?_ ?_
                          rotate_left 2
                          · (simp only [List.getElem?_toArray, List.getElem?_cons_zero, List.getElem?_cons_succ]; rfl)
                          · kernel_rfl
                          · exact fun _ _ _ h => h
                          · rfl
                          · (intro w hSw; (try dsimp only at hSw); go_simp; (try with_reducible rfl))
                          · exact HS
                          (try simp only [Act.put, List.setIfInBounds_toArray, List.set_cons_zero, List.set_cons_succ])
                          refine ordG_all (rs := [5]) (by kernel_rfl) (by simp) (by decide) ?_
                          refine' ordG_cons (o := _) ?_ (fun K hK => ?_) ordG_nil
                          rotate_left 1
                          · (simp only [List.getElem?_toArray, List.getElem?_cons_zero, List.getElem?_cons_succ]; rfl)
                          go_simp
                          go_at_call 37
                          refine (HMN.out _).mono ?_
                          rintro e w1 ⟨rfl, rfl⟩
                          go_simp
                          refine hK.out _ _ HS ?_
                          clear hK K
                          (try simp only [Act.put, List.setIfInBounds_toArray, List.set_cons_zero, List.set_cons_succ])
                          refine' ordG_take 6 (oi := _) (v := _) ?_ ?_ ?_ (Or.inl ⟨?_, ?_⟩) ?_ ?_
                          rotate_left 2
                          · (simp only [List.getElem?_toArray, List.getElem?_cons_zero, List.getElem?_cons_succ]; rfl)
                          · kernel_rfl
                          · exact fun _ _ _ h => h
                          · rfl
                          · (intro w hSw; (try dsimp only at hSw); go_simp; (try with_reducible rfl))
                          · exact HS
                          (try simp only [Act.put, List.setIfInBounds_toArray, List.set_cons_zero, List.set_cons_succ])
                          refine' ordG_take 7 (oi := _) (v := _) ?_ ?_ ?_ (Or.inl ⟨?_, ?_⟩) ?_ ?_
                          rotate_left 2
                          · (simp only [List.getElem?_toArray, List.getElem?_cons_zero, List.getElem?_cons_succ]; rfl)
                          · kernel_rfl
                          · exact fun _ _ _ h => h
                          · rfl
                          · (intro w hSw; (try dsimp only at hSw); go_simp; (try with_reducible rfl))
                          · exact HS
                          (try simp only [Act.put, List.setIfInBounds_toArray, List.set_cons_zero, List.set_cons_succ])
                          refine ordG_all (rs := [10]) (by kernel_rfl) (by simp) (by decide) ?_
                          refine' ordG_cons (o := _) ?_ (fun K hK => ?_) ordG_nil
                          rotate_left 1
                          · (simp only [List.getElem?_toArray, List.getElem?_cons_zero, List.getElem?_cons_succ]; rfl)
                          go_simp
                          go_at_call 38
                          refine (HMX.out _).mono ?_
                          rintro e w1 ⟨rfl, rfl⟩
                          go_simp
                          refine hK.out _ _ HS ?_
                          clear hK K
                          (try simp only [Act.put, List.setIfInBounds_toArray, List.set_cons_zero, List.set_cons_succ])
                          have YA : Ext wr ((wr.alloc (.cells #[.int .i64 pe, .int .i64 x1, .int .i64 x2] 3)).drew) := (Ext.new _ _).drew
                          have YB : Ext wr (((wr.alloc (.cells #[.int .i64 pe, .int .i64 x1, .int .i64 x2] 3)).alloc (.cells #[.slice (some ⟨wr.heap.size, 0, none⟩) 3 3] 23)).drew) := ((Ext.new _ _).alloc _).drew
                          refine' ordG_take 11 (oi := _) (v := _) ?_ ?_ ?_ (Or.inl ⟨?_, ?_⟩) ?_ ?_
                          rotate_left 2
                          · (simp only [List.getElem?_toArray, List.getElem?_cons_zero, List.getElem?_cons_succ]; rfl)
                          · kernel_rfl
                          · exact fun _ _ _ h => h
                          · rfl
                          · (intro w hSw; (try dsimp only at hSw); go_simp; (try with_reducible rfl))
                          · exact HS
                          (try simp only [Act.put, List.setIfInBounds_toArray, List.set_cons_zero, List.set_cons_succ])
                          refine' ordG_take 12 (oi := _) (v := _) ?_ ?_ ?_ (Or.inl ⟨?_, ?_⟩) ?_ ?_
                          rotate_left 2
                          · (simp only [List.getElem?_toArray, List.getElem?_cons_zero, List.getElem?_cons_succ]; rfl)
                          · kernel_rfl
                          · exact fun _ _ _ h => h
                          · rfl
                          · (intro w hSw; (try dsimp only at hSw); go_simp; (try with_reducible rfl))
                          · exact HS
                          (try simp only [Act.put, List.setIfInBounds_toArray, List.set_cons_zero, List.set_cons_succ])
                          refine ordG_all (rs := [23]) (by kernel_rfl) (by simp) (by decide) ?_
                          refine' ordG_cons (o := _) ?_ (fun K hK => ?_) ordG_nil
                          rotate_left 1
                          · (simp only [List.getElem?_toArray, List.getElem?_cons_zero, List.getElem?_cons_succ]; rfl)
                          go_simp
                          have HSA : ((wr.alloc (.cells #[.int .i64 pe, .int .i64 x1, .int .i64 x2] 3)).drew).cell? ⟨bx, 1, none⟩ = some ov2 ∧ ((wr.alloc (.cells #[.int .i64 pe, .int .i64 x1, .int .i64 x2] 3)).drew).cell? ⟨B, i1, none⟩ = some (.slice (some ⟨bb, 0, none⟩) (m + 1) (m + 1)) ∧ ((wr.alloc (.cells #[.int .i64 pe, .int .i64 x1, .int .i64 x2] 3)).drew).cell? ⟨bb, j1, none⟩ = some (.int .i64 pe) := ⟨YA.cell c1, YA.cell tc1, YA.cell tc2⟩
                          refine hK.out _ _ HSA ?_
                          clear hK K
                          (try simp only [Act.put, List.setIfInBounds_toArray, List.set_cons_zero, List.set_cons_succ])
                          refine ordG_all (rs := [24]) (by kernel_rfl) (by simp) (by decide) ?_
                          refine' ordG_cons (o := _) ?_ (fun K hK => ?_) ordG_nil
                          rotate_left 1
                          · (simp only [List.getElem?_toArray, List.getElem?_cons_zero, List.getElem?_cons_succ]; rfl)
                          go_simp
                          have HSB : (((wr.alloc (.cells #[.int .i64 pe, .int .i64 x1, .int .i64 x2] 3)).alloc (.cells #[.slice (some ⟨wr.heap.size, 0, none⟩) 3 3] 23)).drew).cell? ⟨bx, 1, none⟩ = some ov2 ∧ (((wr.alloc (.cells #[.int .i64 pe, .int .i64 x1, .int .i64 x2] 3)).alloc (.cells #[.slice (some ⟨wr.heap.size, 0, none⟩) 3 3] 23)).drew).cell? ⟨B, i1, none⟩ = some (.slice (some ⟨bb, 0, none⟩) (m + 1) (m + 1)) ∧ (((wr.alloc (.cells #[.int .i64 pe, .int .i64 x1, .int .i64 x2] 3)).alloc (.cells #[.slice (some ⟨wr.heap.size, 0, none⟩) 3 3] 23)).drew).cell? ⟨bb, j1, none⟩ = some (.int .i64 pe) := ⟨YB.cell c1, YB.cell tc1, YB.cell tc2⟩
                          refine hK.out _ _ HSB ?_
                          clear hK K
                          (try simp only [Act.put, List.setIfInBounds_toArray, List.set_cons_zero, List.set_cons_succ])
                          refine ordG_all (rs := [25]) (by kernel_rfl) (by simp) (by decide) ?_
                          refine' ordG_cons (o := _) ?_ (fun K hK => ?_) ordG_nil
                          rotate_left 1
                          · (simp only [List.getElem?_toArray, List.getElem?_cons_zero, List.getElem?_cons_succ]; rfl)
                          refine stepFE (zs := [(.slice (some ⟨wr.heap.size, 0, none⟩) 3 3, [pe, x1, x2])]) HF.out (by decide) (by decide) YB ((((RowsZ.one (ownI_lit3 wr pe x1 x2 (Nat.le_refl _))).ext (Ext.new _ _)).ext (Ext.refl _).drew).hi_size) (Nat.le_refl _) (rdZ_at (b := wr.heap.size + 1) (us := [.slice (some ⟨wr.heap.size, 0, none⟩) 3 3]) (blk_new _ (by simp)) (by simp)) rfl (.tmp 127) (.tmp 150) rfl (by rfl) (by rfl) (by simp at hl30 ⊢; omega) ?_
                          intro L A9 c9 w9 _ hb9 HP X9
                          obtain ⟨q0, q1⟩ := blk2 hb9
                          obtain ⟨q2, q3⟩ := blk2f hb9
                          have q4 := blk_lt hb9
                          obtain ⟨tc3, tc4⟩ := HTR.out w9 X9
                          have HS9 : (w9).cell? ⟨bx, 1, none⟩ = some ov2 ∧ (w9).cell? ⟨B, i1, none⟩ = some (.slice (some ⟨bb, 0, none⟩) (m + 1) (m + 1)) ∧ (w9).cell? ⟨bb, j1, none⟩ = some (.int .i64 pe) := ⟨q1, tc3, tc4⟩
                          refine hK.out _ _ HS9 ?_
                          clear hK K
                          (try simp only [Act.put, List.setIfInBounds_toArray, List.set_cons_zero, List.set_cons_succ])
                          refine' ordG_take 26 (oi := _) (v := _) ?_ ?_ ?_ (Or.inl ⟨?_, ?_⟩) ?_ ?_
                          rotate_left 2
                          · (simp only [List.getElem?_toArray, List.getElem?_cons_zero, List.getElem?_cons_succ]; rfl)
                          · kernel_rfl
                          · exact fun _ _ _ h => h
                          · rfl
                          · (intro w hSw; (try dsimp only at hSw); go_simp; (try with_reducible rfl))
                          · exact HS9
                          (try simp only [Act.put, List.setIfInBounds_toArray, List.set_cons_zero, List.set_cons_succ])
                          refine ordG_last (by kernel_rfl) (by kernel_rfl) ?_
                          refine' wpOp_step (o := _) ?_ (fun K hK => ?_)
                          rotate_left 1
                          · (simp only [List.getElem?_toArray, List.getElem?_cons_zero, List.getElem?_cons_succ]; rfl)
                          go_simp
                          refine hK _ _ ?_
                          clear hK K
                          (try simp only [Act.put, List.setIfInBounds_toArray, List.set_cons_zero, List.set_cons_succ])
                          clear HS HSA HSB HS9 YA YB c0 c1 q0 q1 q2 q3 tc1 tc2 tc3 tc4
                          go_wp2
                          go_roundw
                          case rel => exact ⟨v1 + 1, _, by omega, by go_num, by rw [HRN.out, HCXE.out, ← List.append_assoc]; exact HP.out⟩
                          case measure => simp [intOf]; omega
                      · have hv4 : ¬ ((v1 : Int) + 1 ≤ (m : Int)) := by omega
                        have HF4 : Hid (FamB W2 wr bx 29 V W2.heap.size ov2 (edA m 2 ++ edB m m ++ edC m (u1 + 1))) := hd (by
                          have e4 : v1 = m := by omega
                          have := HF.out
                          rw [e4] at this
                          rw [HCN.out, ← List.append_assoc]; exact this)
                        clear hlt4
                        go_wp2
                        go_roundw
                        case rel => exact ⟨u1 + 1, _, by omega, by go_num, HF4.out⟩
                        case measure => simp [intOf]; omega
                  · have hu3 : ¬ ((u1 : Int) + 1 ≤ (m : Int)) := by omega
                    have HF5 : Hid (FamB W2 wr bx 29 V W2.heap.size ov1 (ed1 m)) := hd (by
                      have e3 : u1 = m := by omega
                      have := HF.out
                      rw [e3] at this
                      rw [HED.out.2.2]; exact this)
                    clear hlt3 HF
                    obtain ⟨A5, c5, rfl, -⟩ := HF5.out.own.form
                    obtain ⟨c0, c1⟩ := blk2 HF5.out.blk
                    have HF6 : Hid (FamB W2 wr bx 29 V W2.heap.size (.slice A5 (ed1 m).length c5) (ed1 m ++ edD m 0)) := hd (by rw [show edD m 0 = [] from rfl, List.append_nil]; exact HF5.out)
                    clear HF5
                    generalize hK1 : (ed1 m).length = K1 at *
                    have HK1 := hd hK1
                    clear hK1
                    go_wp2
                    clear c0 c1
                    go_loopw [18] (fun vv wr => ∃ (k : Nat) (ov : Value), k ≤ m ∧ vv = .int .i64 ((k : Int) + 1) ∧ FamB W2 wr bx 29 V W2.heap.size ov (ed1 m ++ edD m k)) (fun vv _ => m + 1 - (intOf vv).toNat)
                    case atStart => exact ⟨0, _, by omega, by go_num, HF6.out⟩
                    case round =>
                      clear HF6
                      obtain ⟨k6, ov6, hk6, rfl, hF⟩ := hrel
                      have HF := hd hF
                      clear hF
                      have hl30 := (HL1.out k6 hk6).2.2.1
                      by_cases hlt6 : k6 < m
                      · have hk7 : (k6 : Int) + 1 ≤ (m : Int) := by omega
                        have HDN := hd (HDS.out k6)
                        generalize hx1 : P + 2 * (m : Int) + ((k6 : Int) + 1) = x1 at *
                        have HRZ := hd ((RowsZ.one (ownI_lit1 wr x1 (Nat.le_refl _))).ext (Ext.new _ (.cells #[.slice (some ⟨wr.heap.size, 0, none⟩) 1 1] 23)))
                        obtain ⟨c0, c1⟩ := blk2 HF.out.blk
                        go_wp2_with (at_builtin; refine appFZ (zs := [(.slice (some ⟨wr.heap.size, 0, none⟩) 1 1, [x1])]) HF.out (by decide) (by decide) ((Ext.new _ _).alloc _) (HRZ.out.hi_size) (Nat.le_refl _) (rdZ_at (b := wr.heap.size + 1) (us := [.slice (some ⟨wr.heap.size, 0, none⟩) 1 1]) (blk_new _ (by simp)) (by simp)) rfl _ _ rfl (by rfl) (by rfl) (by simp at hl30 ⊢; omega) ?_
                                     intro L9 A9 c9 w9 _ hb9 HP X9 _
                                     obtain ⟨q0, q1⟩ := blk2 hb9
                                     obtain ⟨q2, q3⟩ := blk2f hb9
                                     have q4 := blk_lt hb9)
                        clear q0 q1 q2 q3 c0 c1
                        go_roundw
                        case rel => exact ⟨k6 + 1, _, by omega, by go_num, by rw [HDN.out, ← List.append_assoc]; exact HP.out⟩
                        case measure => simp [intOf]; omega
                      · have hk7 : ¬ ((k6 : Int) + 1 ≤ (m : Int)) := by omega
                        have HF7 : Hid (FamB W2 wr bx 29 V W2.heap.size ov6 (ed1 m ++ edD m m ++ edE m 0)) := hd (by
                          have e6 : k6 = m := by omega
                          have := HF.out
                          rw [e6] at this
                          rw [show edE m 0 = [] from rfl, List.append_nil]; exact this)
                        clear hlt6 HF hl30
                        go_wp2
                        go_loopw [19] (fun vv wr => ∃ (u : Nat) (ov : Value), u ≤ m ∧ vv = .int .i64 ((u : Int) + 1) ∧ FamB W2 wr bx 29 V W2.heap.size ov (ed1 m ++ edD m m ++ edE m u)) (fun vv _ => m + 1 - (intOf vv).toNat)
                        case atStart => exact ⟨0, _, by omega, by go_num, HF7.out⟩
                        case round =>
                          clear HF7
                          obtain ⟨u8, ov8, hu8, rfl, hF⟩ := hrel
                          have HF := hd hF
                          clear hF
                          by_cases hlt8 : u8 < m
                          · have hu9 : (u8 : Int) + 1 ≤ (m : Int) := by omega
                            have HEN := hd (HES.out u8)
                            have HF8 : Hid (FamB W2 wr bx 29 V W2.heap.size ov8 (ed1 m ++ edD m m ++ edE m u8 ++ edEr m u8 (u8 + 1 - (u8 + 1)))) := hd (by rw [Nat.sub_self, show edEr m u8 0 = [] from rfl, List.append_nil]; exact HF.out)
                            clear HF
                            go_wp2
                            go_loopw [20] (fun vv wr => ∃ (v : Nat) (ov : Value), u8 + 1 ≤ v ∧ v ≤ m ∧ vv = .int .i64 ((v : Int) + 1) ∧ FamB W2 wr bx 29 V W2.heap.size ov (ed1 m ++ edD m m ++ edE m u8 ++ edEr m u8 (v - (u8 + 1)))) (fun vv _ => m + 1 - (intOf vv).toNat)
                            case atStart => exact ⟨u8 + 1, _, by omega, by omega, by go_num, HF8.out⟩
                            case round =>
                              clear HF8
                              obtain ⟨v9, ov9, hv9, hv9m, rfl, hF⟩ := hrel
                              have HF := hd hF
                              clear hF
                              have hl40 := (HLR.out u8 (v9 - (u8 + 1)) hlt8 (by omega)).2
                              by_cases hlt9 : v9 < m
                              · have hv10 : (v9 : Int) + 1 ≤ (m : Int) := by omega
                                have HRN : Hid (edEr m u8 (v9 + 1 - (u8 + 1)) = edEr m u8 (v9 - (u8 + 1)) ++ [edEx m u8 v9]) := hd (by
                                  have e := HER.out u8 (v9 - (u8 + 1))
                                  rw [show v9 - (u8 + 1) + 1 = v9 + 1 - (u8 + 1) from by omega, show u8 + 1 + (v9 - (u8 + 1)) = v9 from by omega] at e
                                  exact e)
                                obtain ⟨bb, tk1, tk2⟩ := TR.out (u8 + 1) (v9 + 1) (by omega) (by omega) (by omega)
                                have hpb := HPB.out u8 v9 hlt8 hlt9
                                have hexe := HEX.out u8 v9
                                generalize pE m (u8 + 1) (v9 + 1) = pe at *
                                have HTR : Hid (∀ w', Ext W2 w' → w'.cell? ⟨B, u8 + 1, none⟩ = some (.slice (some ⟨bb, 0, none⟩) (m + 1) (m + 1)) ∧ w'.cell? ⟨bb, v9 + 1, none⟩ = some (.int .i64 pe)) := hd fun w' hx => ⟨hx.cell tk1, hx.cell tk2⟩
                                obtain ⟨tc1, tc2⟩ := HTR.out wr HF.out.ext
                                obtain ⟨c0, c1⟩ := blk2 HF.out.blk
                                generalize hx0 : -pe = x0 at *
                                generalize hx1 : -(P + 2 * (m : Int) + ((u8 : Int) + 1)) = x1 at *
                                generalize hx2 : -(P + 2 * (m : Int) + ((v9 : Int) + 1)) = x2 at *
                                have hwa : IntKind.i64.wrap (2 * (m : Int)) = 2 * (m : Int) := IntWalk.i64_in _ (by omega)
                                have hwb : IntKind.i64.wrap (P + 2 * (m : Int)) = P + 2 * (m : Int) := IntWalk.i64_in _ (by omega)
                                have hwc : IntKind.i64.wrap (P + 2 * (m : Int) + ((u8 : Int) + 1)) = P + 2 * (m : Int) + ((u8 : Int) + 1) := IntWalk.i64_in _ (by omega)
                                have hwd : IntKind.i64.wrap (P + 2 * (m : Int) + ((v9 : Int) + 1)) = P + 2 * (m : Int) + ((v9 : Int) + 1) := IntWalk.i64_in _ (by omega)
                                have hw0 : IntKind.i64.wrap (-pe) = x0 := by rw [hx0]; exact IntWalk.i64_in _ (by omega)
                                have hw1 : IntKind.i64.wrap (-(P + 2 * (m : Int) + ((u8 : Int) + 1))) = x1 := by rw [hx1]; exact IntWalk.i64_in _ (by omega)
                                have hw2 : IntKind.i64.wrap (-(P + 2 * (m : Int) + ((v9 : Int) + 1))) = x2 := by rw [hx2]; exact IntWalk.i64_in _ (by omega)
                                have HEXE := hd hexe
                                have hi1m : (u8 : Int) + 1 < (m : Int) + 1 := by omega
                                have hi1z : (0 : Int) ≤ (u8 : Int) + 1 := by omega
                                have hj1z : (0 : Int) ≤ (v9 : Int) + 1 := by omega
                                have hj1m : (v9 : Int) + 1 < (m : Int) + 1 := by omega
                                clear hx0 hx1 hx2 hexe tk1 tk2
                                go_wp2_with fail
                                refine wp_region_sink (fun w' => (w').cell? ⟨bx, 1, none⟩ = some ov9 ∧ (w').cell? ⟨B, u8 + 1, none⟩ = some (.slice (some ⟨bb, 0, none⟩) (m + 1) (m + 1)) ∧ (w').cell? ⟨bb, v9 + 1, none⟩ = some (.int .i64 pe)) 28 29 #[false, false, false, false, false, false, false, false, false, false, false, false, false, false, false, false, false, false, false, false, false, false, false, false, false, false, false, false, false] (by kernel_rfl) (by kernel_rfl) (by kernel_rfl) ?_
                                have HS : (wr.drew).cell? ⟨bx, 1, none⟩ = some ov9 ∧ (wr.drew).cell? ⟨B, u8 + 1, none⟩ = some (.slice (some ⟨bb, 0, none⟩) (m + 1) (m + 1)) ∧ (wr.drew).cell? ⟨bb, v9 + 1, none⟩ = some (.int .i64 pe) := ⟨c1, tc1, tc2⟩
                                have YA : Ext wr ((wr.alloc (.cells #[.int .i64 x0, .int .i64 x1, .int .i64 x2] 3)).drew) := (Ext.new _ _).drew
                                have YB : Ext wr (((wr.alloc (.cells #[.int .i64 x0, .int .i64 x1, .int .i64 x2] 3)).alloc (.cells #[.slice (some ⟨wr.heap.size, 0, none⟩) 3 3] 23)).drew) := ((Ext.new _ _).alloc _).drew
                                refine' ordG_take 0 (oi := _) (v := _) ?_ ?_ ?_ (Or.inl ⟨?_, ?_⟩) ?_ ?_
                                rotate_left 2
                                · (simp only [List.getElem?_toArray, List.getElem?_cons_zero]; rfl)
                                · kernel_rfl
                                · exact fun _ _ _ h => h
                                · rfl
                                · (intro w hSw; (try dsimp only at hSw); go_simp; (try with_reducible rfl))
                                · exact HS
                                (try simp only [Act.put, List.setIfInBounds_toArray, List.set_cons_zero, List.set_cons_succ])
                                refine' ordG_take 1 (oi := _) (v := _) ?_ ?_ ?_ (Or.inl ⟨?_, ?_⟩) ?_ ?_
                                rotate_left 2
                                · (simp only [List.getElem?_toArray, List.getElem?_cons_zero, List.getElem?_cons_succ]; rfl)
                                · kernel_rfl
                                · exact fun _ _ _ h => h
                                · rfl
                                · (intro w hSw; (try dsimp only at hSw); go_simp; (try with_reducible rfl))
                                · exact HS
                                (try simp only [Act.put, List.setIfInBounds_toArray, List.set_cons_zero, List.set_cons_succ])
                                refine' ordG_take 2 (oi := _) (v := _) ?_ ?_ ?_ (Or.inl ⟨?_, ?_⟩) ?_ ?_
                                rotate_left 2
                                · (simp only [List.getElem?_toArray, List.getElem?_cons_zero, List.getElem?_cons_succ]; rfl)
                                · kernel_rfl
                                · exact fun _ _ _ h => h
                                · rfl
                                · (intro w hSw; (try dsimp only at hSw); go_simp; (try with_reducible rfl))
                                · exact HS
                                (try simp only [Act.put, List.setIfInBounds_toArray, List.set_cons_zero, List.set_cons_succ])
                                refine' ordG_take 3 (oi := _) (v := _) ?_ ?_ ?_ (Or.inl ⟨?_, ?_⟩) ?_ ?_
                                rotate_left 2
                                · (simp only [List.getElem?_toArray, List.getElem?_cons_zero, List.getElem?_cons_succ]; rfl)
                                · kernel_rfl
                                · exact fun _ _ _ h => h
                                · rfl
                                · (intro w hSw; (try dsimp only at hSw); go_simp; (try with_reducible rfl))
                                · exact HS
                                (try simp only [Act.put, List.setIfInBounds_toArray, List.set_cons_zero, List.set_cons_succ])
                                refine' ordG_take 4 (oi := _) (v := _) ?_ ?_ ?_ (Or.inl ⟨?_, ?_⟩) ?_ ?_
                                rotate_left 2
                                · (simp only [List.getElem?_toArray, List.getElem?_cons_zero, List.getElem?_cons_succ]; rfl)
                                · kernel_rfl
                                · exact fun _ _ _ h => h
                                · rfl
                                · (intro w hSw; (try dsimp only at hSw); go_simp; (try with_reducible rfl))
                                · exact HS
                                (try simp only [Act.put, List.setIfInBounds_toArray, List.set_cons_zero, List.set_cons_succ])
                                refine' ordG_take 5 (oi := _) (v := _) ?_ ?_ ?_ (Or.inl ⟨?_, ?_⟩) ?_ ?_
                                rotate_left 2
                                · (simp only [List.getElem?_toArray, List.getElem?_cons_zero, List.getElem?_cons_succ]; rfl)
                                · kernel_rfl
                                · exact fun _ _ _ h => h
                                · rfl
                                · (intro w hSw; (try dsimp only at hSw); go_simp; (try with_reducible rfl))
                                · exact HS
                                (try simp only [Act.put, List.setIfInBounds_toArray, List.set_cons_zero, List.set_cons_succ])
                                refine' ordG_take 6 (oi := _) (v := _) ?_ ?_ ?_ (Or.inl ⟨?_, ?_⟩) ?_ ?_
                                rotate_left 2
                                · (simp only [List.getElem?_toArray, List.getElem?_cons_zero, List.getElem?_cons_succ]; rfl)
                                · kernel_rfl
                                · exact fun _ _ _ h => h
                                · rfl
                                · (intro w hSw; (try dsimp only at hSw); go_simp; (try with_reducible rfl))
                                · exact HS
                                (try simp only [Act.put, List.setIfInBounds_toArray, List.set_cons_zero, List.set_cons_succ])
                                refine' ordG_take 7 (oi := _) (v := _) ?_ ?_ ?_ (Or.inl ⟨?_, ?_⟩) ?_ ?_
                                rotate_left 2
                                · (simp only [List.getElem?_toArray, List.getElem?_cons_zero, List.getElem?_cons_succ]; rfl)
                                · kernel_rfl
                                · exact fun _ _ _ h => h
                                · rfl
                                · (intro w hSw; (try dsimp only at hSw); go_simp; (try with_reducible rfl))
                                · exact HS
                                (try simp only [Act.put, List.setIfInBounds_toArray, List.set_cons_zero, List.set_cons_succ])
                                refine' ordG_take 8 (oi := _) (v := _) ?_ ?_ ?_ (Or.inl ⟨?_, ?_⟩) ?_ ?_
                                rotate_left 2
                                · (simp only [List.getElem?_toArray, List.getElem?_cons_zero, List.getElem?_cons_succ]; rfl)
                                · kernel_rfl
                                · exact fun _ _ _ h => h
                                · rfl
                                · (intro w hSw; (try dsimp only at hSw); go_simp; (try with_reducible rfl))
                                · exact HS
                                (try simp only [Act.put, List.setIfInBounds_toArray, List.set_cons_zero, List.set_cons_succ])
                                refine' ordG_take 9 (oi := _) (v := _) ?_ ?_ ?_ (Or.inl ⟨?_, ?_⟩) ?_ ?_
                                rotate_left 2
                                · (simp only [List.getElem?_toArray, List.getElem?_cons_zero, List.getElem?_cons_succ]; rfl)
                                · kernel_rfl
                                · exact fun _ _ _ h => h
                                · rfl
                                · (intro w hSw; (try dsimp only at hSw); go_simp; (try with_reducible rfl))
                                · exact HS
                                (try simp only [Act.put, List.setIfInBounds_toArray, List.set_cons_zero, List.set_cons_succ])
                                refine' ordG_take 10 (oi := _) (v := _) ?_ ?_ ?_ (Or.inl ⟨?_, ?_⟩) ?_ ?_
                                rotate_left 2
                                · (simp only [List.getElem?_toArray, List.getElem?_cons_zero, List.getElem?_cons_succ]; rfl)
                                · kernel_rfl
                                · exact fun _ _ _ h => h
                                · rfl
                                · (intro w hSw; (try dsimp only at hSw); go_simp; (try with_reducible rfl))
                                · exact HS
                                (try simp only [Act.put, List.setIfInBounds_toArray, List.set_cons_zero, List.set_cons_succ])
                                refine' ordG_take 11 (oi := _) (v := _) ?_ ?_ ?_ (Or.inl ⟨?_, ?_⟩) ?_ ?_
                                rotate_left 2
                                · (simp only [List.getElem?_toArray, List.getElem?_cons_zero, List.getElem?_cons_succ]; rfl)
                                · kernel_rfl
                                · exact fun _ _ _ h => h
                                · rfl
                                · (intro w hSw; (try dsimp only at hSw); go_simp; (try with_reducible rfl))
                                · exact HS
                                (try simp only [Act.put, List.setIfInBounds_toArray, List.set_cons_zero, List.set_cons_succ])
                                refine' ordG_take 12 (oi := _) (v := _) ?_ ?_ ?_ (Or.inl ⟨?_, ?_⟩) ?_ ?_
                                rotate_left 2
                                · (simp only [List.getElem?_toArray, List.getElem?_cons_zero, List.getElem?_cons_succ]; rfl)
                                · kernel_rfl
                                · exact fun _ _ _ h => h
                                · rfl
                                · (intro w hSw; (try dsimp only at hSw); go_simp; (try with_reducible rfl))
                                · exact HS
                                (try simp only [Act.put, List.setIfInBounds_toArray, List.set_cons_zero, List.set_cons_succ])
                                refine' ordG_take 13 (oi := _) (v := _) ?_ ?_ ?_ (Or.inl ⟨?_, ?_⟩) ?_ ?_
                                rotate_left 2
                                · (simp only [List.getElem?_toArray, List.getElem?_cons_zero, List.getElem?_cons_succ]; rfl)
                                · kernel_rfl
                                · exact fun _ _ _ h => h
                                · rfl
                                · (intro w hSw; (try dsimp only at hSw); go_simp; (try with_reducible rfl))
                                · exact HS
                                (try simp only [Act.put, List.setIfInBounds_toArray, List.set_cons_zero, List.set_cons_succ])
                                refine' ordG_take 14 (oi := _) (v := _) ?_ ?_ ?_ (Or.inl ⟨?_, ?_⟩) ?_ ?_
                                rotate_left 2
                                · (simp only [List.getElem?_toArray, List.getElem?_cons_zero, List.getElem?_cons_succ]; rfl)
                                · kernel_rfl
                                · exact fun _ _ _ h => h
                                · rfl
                                · (intro w hSw; (try dsimp only at hSw); go_simp; (try with_reducible rfl))
                                · exact HS
                                (try simp only [Act.put, List.setIfInBounds_toArray, List.set_cons_zero, List.set_cons_succ])
                                refine' ordG_take 15 (oi := _) (v := _) ?_ ?_ ?_ (Or.inl ⟨?_, ?_⟩) ?_ ?_
                                rotate_left 2
                                · (simp only [List.getElem?_toArray, List.getElem?_cons_zero, List.getElem?_cons_succ]; rfl)
                                · kernel_rfl
                                · exact fun _ _ _ h => h
                                · rfl
                                · (intro w hSw; (try dsimp only at hSw); go_simp; (try with_reducible rfl))
                                · exact HS
                                (try simp only [Act.put, List.setIfInBounds_toArray, List.set_cons_zero, List.set_cons_succ])
                                refine' ordG_take 16 (oi := _) (v := _) ?_ ?_ ?_ (Or.inl ⟨?_, ?_⟩) ?_ ?_
                                rotate_left 2
                                · (simp only [List.getElem?_toArray, List.getElem?_cons_zero, List.getElem?_cons_succ]; rfl)
                                · kernel_rfl
                                · exact fun _ _ _ h => h
                                · rfl
                                · (intro w hSw; (try dsimp only at hSw); go_simp; (try with_reducible rfl))
                                · exact HS
                                (try simp only [Act.put, List.setIfInBounds_toArray, List.set_cons_zero, List.set_cons_succ])
                                refine' ordG_take 17 (oi := _) (v := _) ?_ ?_ ?_ (Or.inl ⟨?_, ?_⟩) ?_ ?_
                                rotate_left 2
                                · (simp only [List.getElem?_toArray, List.getElem?_cons_zero, List.getElem?_cons_succ]; rfl)
                                · kernel_rfl
                                · exact fun _ _ _ h => h
                                · rfl
                                · (intro w hSw; (try dsimp only at hSw); go_simp; (try with_reducible rfl))
                                · exact HS
                                (try simp only [Act.put, List.setIfInBounds_toArray, List.set_cons_zero, List.set_cons_succ])
                                refine' ordG_take 18 (oi := _) (v := _) ?_ ?_ ?_ (Or.inl ⟨?_, ?_⟩) ?_ ?_
                                rotate_left 2
                                · (simp only [List.getElem?_toArray, List.getElem?_cons_zero, List.getElem?_cons_succ]; rfl)
                                · kernel_rfl
                                · exact fun _ _ _ h => h
                                · rfl
                                · (intro w hSw; (try dsimp only at hSw); go_simp; (try with_reducible rfl))
                                · exact HS
                                (try simp only [Act.put, List.setIfInBounds_toArray, List.set_cons_zero, List.set_cons_succ])
                                refine' ordG_take 19 (oi := _) (v := _) ?_ ?_ ?_ (Or.inl ⟨?_, ?_⟩) ?_ ?_
                                rotate_left 2
                                · (simp only [List.getElem?_toArray, List.getElem?_cons_zero, List.getElem?_cons_succ]; rfl)
                                · kernel_rfl
                                · exact fun _ _ _ h => h
                                · rfl
                                · (intro w hSw; (try dsimp only at hSw); go_simp; (try with_reducible rfl))
                                · exact HS
                                (try simp only [Act.put, List.setIfInBounds_toArray, List.set_cons_zero, List.set_cons_succ])
                                refine' ordG_take 20 (oi := _) (v := _) ?_ ?_ ?_ (Or.inl ⟨?_, ?_⟩) ?_ ?_
                                rotate_left 2
                                · (simp only [List.getElem?_toArray, List.getElem?_cons_zero, List.getElem?_cons_succ]; rfl)
                                · kernel_rfl
                                · exact fun _ _ _ h => h
                                · rfl
                                · (intro w hSw; (try dsimp only at hSw); go_simp; (try with_reducible rfl))
                                · exact HS
                                (try simp only [Act.put, List.setIfInBounds_toArray, List.set_cons_zero, List.set_cons_succ])
                                refine' ordG_take 21 (oi := _) (v := _) ?_ ?_ ?_ (Or.inl ⟨?_, ?_⟩) ?_ ?_
                                rotate_left 2
                                · (simp only [List.getElem?_toArray, List.getElem?_cons_zero, List.getElem?_cons_succ]; rfl)
                                · kernel_rfl
                                · exact fun _ _ _ h => h
                                · rfl
                                · (intro w hSw; (try dsimp only at hSw); go_simp; (try with_reducible rfl))
                                · exact HS
                                (try simp only [Act.put, List.setIfInBounds_toArray, List.set_cons_zero, List.set_cons_succ])
                                refine' ordG_take 22 (oi := _) (v := _) ?_ ?_ ?_ (Or.inl ⟨?_, ?_⟩) ?_ ?_
                                rotate_left 2
                                · (simp only [List.getElem?_toArray, List.getElem?_cons_zero, List.getElem?_cons_succ]; rfl)
                                · kernel_rfl
                                · exact fun _ _ _ h => h
                                · rfl
                                · (intro w hSw; (try dsimp only at hSw); go_simp; (try with_reducible rfl))
                                · exact HS
                                (try simp only [Act.put, List.setIfInBounds_toArray, List.set_cons_zero, List.set_cons_succ])
                                refine' ordG_take 23 (oi := _) (v := _) ?_ ?_ ?_ (Or.inl ⟨?_, ?_⟩) ?_ ?_
                                rotate_left 2
                                · (simp only [List.getElem?_toArray, List.getElem?_cons_zero, List.getElem?_cons_succ]; rfl)
                                · kernel_rfl
                                · exact fun _ _ _ h => h
                                · rfl
                                · (intro w hSw; (try dsimp only at hSw); go_simp; (try with_reducible rfl))
                                · exact HS
                                (try simp only [Act.put, List.setIfInBounds_toArray, List.set_cons_zero, List.set_cons_succ])
                                refine ordG_all (rs := [24]) (by kernel_rfl) (by simp) (by decide) ?_
                                refine' ordG_cons (o := _) ?_ (fun K hK => ?_) ordG_nil
                                rotate_left 1
                                · (simp only [List.getElem?_toArray, List.getElem?_cons_zero, List.getElem?_cons_succ]; rfl)
                                go_simp
                                have HSA : (((wr.alloc (.cells #[.int .i64 x0, .int .i64 x1, .int .i64 x2] 3)).drew)).cell? ⟨bx, 1, none⟩ = some ov9 ∧ (((wr.alloc (.cells #[.int .i64 x0, .int .i64 x1, .int .i64 x2] 3)).drew)).cell? ⟨B, u8 + 1, none⟩ = some (.slice (some ⟨bb, 0, none⟩) (m + 1) (m + 1)) ∧ (((wr.alloc (.cells #[.int .i64 x0, .int .i64 x1, .int .i64 x2] 3)).drew)).cell? ⟨bb, v9 + 1, none⟩ = some (.int .i64 pe) := ⟨YA.cell c1, YA.cell tc1, YA.cell tc2⟩
                                refine hK.out _ _ HSA ?_
                                clear hK K
                                (try simp only [Act.put, List.setIfInBounds_toArray, List.set_cons_zero, List.set_cons_succ])
                                refine ordG_all (rs := [25]) (by kernel_rfl) (by simp) (by decide) ?_
                                refine' ordG_cons (o := _) ?_ (fun K hK => ?_) ordG_nil
                                rotate_left 1
                                · (simp only [List.getElem?_toArray, List.getElem?_cons_zero, List.getElem?_cons_succ]; rfl)
                                go_simp
                                have HSB : ((((wr.alloc (.cells #[.int .i64 x0, .int .i64 x1, .int .i64 x2] 3)).alloc (.cells #[.slice (some ⟨wr.heap.size, 0, none⟩) 3 3] 23)).drew)).cell? ⟨bx, 1, none⟩ = some ov9 ∧ ((((wr.alloc (.cells #[.int .i64 x0, .int .i64 x1, .int .i64 x2] 3)).alloc (.cells #[.slice (some ⟨wr.heap.size, 0, none⟩) 3 3] 23)).drew)).cell? ⟨B, u8 + 1, none⟩ = some (.slice (some ⟨bb, 0, none⟩) (m + 1) (m + 1)) ∧ ((((wr.alloc (.cells #[.int .i64 x0, .int .i64 x1, .int .i64 x2] 3)).alloc (.cells #[.slice (some ⟨wr.heap.size, 0, none⟩) 3 3] 23)).drew)).cell? ⟨bb, v9 + 1, none⟩ = some (.int .i64 pe) := ⟨YB.cell c1, YB.cell tc1, YB.cell tc2⟩
                                refine hK.out _ _ HSB ?_
                                clear hK K
                                (try simp only [Act.put, List.setIfInBounds_toArray, List.set_cons_zero, List.set_cons_succ])
                                refine ordG_all (rs := [26]) (by kernel_rfl) (by simp) (by decide) ?_
                                refine' ordG_cons (o := _) ?_ (fun K hK => ?_) ordG_nil
                                rotate_left 1
                                · (simp only [List.getElem?_toArray, List.getElem?_cons_zero, List.getElem?_cons_succ]; rfl)
                                refine stepFE (zs := [(.slice (some ⟨wr.heap.size, 0, none⟩) 3 3, [x0, x1, x2])]) HF.out (by decide) (by decide) YB ((((RowsZ.one (ownI_lit3 wr x0 x1 x2 (Nat.le_refl _))).ext (Ext.new _ _)).ext (Ext.refl _).drew).hi_size) (Nat.le_refl _) (rdZ_at (b := wr.heap.size + 1) (us := [.slice (some ⟨wr.heap.size, 0, none⟩) 3 3]) (blk_new _ (by simp)) (by simp)) rfl (.tmp 186) (.tmp 210) rfl (by rfl) (by rfl) (by simp at hl40 ⊢; omega) ?_
                                intro L A9 c9 w9 _ hb9 HP X9
                                obtain ⟨q0, q1⟩ := blk2 hb9
                                obtain ⟨q2, q3⟩ := blk2f hb9
                                have q4 := blk_lt hb9
                                obtain ⟨tc3, tc4⟩ := HTR.out w9 X9
                                have HS9 : (w9).cell? ⟨bx, 1, none⟩ = some ov9 ∧ (w9).cell? ⟨B, u8 + 1, none⟩ = some (.slice (some ⟨bb, 0, none⟩) (m + 1) (m + 1)) ∧ (w9).cell? ⟨bb, v9 + 1, none⟩ = some (.int .i64 pe) := ⟨q1, tc3, tc4⟩
                                refine hK.out _ _ HS9 ?_
                                clear hK K
                                (try simp only [Act.put, List.setIfInBounds_toArray, List.set_cons_zero, List.set_cons_succ])
                                refine' ordG_take 27 (oi := _) (v := _) ?_ ?_ ?_ (Or.inl ⟨?_, ?_⟩) ?_ ?_
                                rotate_left 2
                                · (simp only [List.getElem?_toArray, List.getElem?_cons_zero, List.getElem?_cons_succ]; rfl)
                                · kernel_rfl
                                · exact fun _ _ _ h => h
                                · rfl
                                · (intro w hSw; (try dsimp only at hSw); go_simp; (try with_reducible rfl))
                                · exact HS9
                                (try simp only [Act.put, List.setIfInBounds_toArray, List.set_cons_zero, List.set_cons_succ])
                                refine ordG_last (by kernel_rfl) (by kernel_rfl) ?_
                                refine' wpOp_step (o := _) ?_ (fun K hK => ?_)
                                rotate_left 1
                                · (simp only [List.getElem?_toArray, List.getElem?_cons_zero, List.getElem?_cons_succ]; rfl)
                                go_simp
                                refine hK _ _ ?_
                                clear hK K
                                (try simp only [Act.put, List.setIfInBounds_toArray, List.set_cons_zero, List.set_cons_succ])
                                clear HS HSA HSB HS9 YA YB c0 c1 q0 q1 q2 q3 tc1 tc2 tc3 tc4
                                go_wp2
                                go_roundw
                                case rel => exact ⟨v9 + 1, _, by omega, by omega, by go_num, by rw [HRN.out, HEXE.out, ← List.append_assoc]; exact HP.out⟩
                                case measure => simp [intOf]; omega
                              · have hv10 : ¬ ((v9 : Int) + 1 ≤ (m : Int)) := by omega
                                have HF9 : Hid (FamB W2 wr bx 29 V W2.heap.size ov9 (ed1 m ++ edD m m ++ edE m (u8 + 1))) := hd (by
                                  have e9 : v9 = m := by omega
                                  have := HF.out
                                  rw [e9] at this
                                  rw [HEN.out, ← List.append_assoc]; exact this)
                                clear hlt9
                                go_wp2
                                go_roundw
                                case rel => exact ⟨u8 + 1, _, by omega, by go_num, HF9.out⟩
                                case measure => simp [intOf]; omega
                          · have hu9 : ¬ ((u8 : Int) + 1 ≤ (m : Int)) := by omega
                            have HF9 : Hid (FamB W2 wr bx 29 V W2.heap.size ov8 (edF m).cs) := hd (by
                              have e9 : u8 = m := by omega
                              have := HF.out
                              rw [e9] at this
                              rw [HED.out.1]; exact this)
                            clear hlt8 HF
                            have XF := hd (HXW.out.trans HF9.out.ext)
                            have B3 := hd (XF.out.heap R0.out)
                            have OW := hd HF9.out.own
                            have X3 := hd (X0.out.trans XF.out)
                            have hW2 := HXW.out.size
                            obtain ⟨A9, c9, rfl, h91, h92⟩ := HF9.out.own.form
                            obtain ⟨c0, c1⟩ := blk2 HF9.out.blk
                            obtain ⟨k0, k1⟩ := blk2 B3.out
                            obtain ⟨k2, k3⟩ := blk2f B3.out
                            have k4 := blk_lt B3.out
                            generalize hL : (edF m).cs.length = L at *
                            have HC := hd (blk2_set (x' := .int .i64 V) (y' := .slice A9 L c9) B3.out)
                            have hg3 := grown_set (grown_set (grown_refl wr (some w.heap.size)) 0 (.int .i64 V)) 1 (.slice A9 L c9)
                            have OW2 := hd (((OW.out.box B3.out (by decide) (by decide) hg3).hi_le hg3.size).lo_le (lo' := w.heap.size) (by omega))
                            have X4 := hd (ext_set (i := 1) (ext_set (i := 0) X3.out (Nat.le_refl _) (.int .i64 V)) (Nat.le_refl _) (.slice A9 L c9))
                            have HKE : Hid (edK m = (K1 : Int)) := hd HED.out.2.1
                            have HFN : Hid ((edF m).n = V) := hd (by rw [HED.out.1])
                            have HUE : Hid (Value.agg #[.int .i64 V, .slice A9 L c9] = .agg #[.int .i64 (edF m).n, .slice A9 L c9]) := hd (by rw [HFN.out])
                            clear hg3 hL
                            go_wp2
                            obtain ⟨p0, p1⟩ := blk2 HC.out
                            exact bodyPost_ret (v := .tuple #[.agg #[.int .i64 V, .slice A9 L c9], .int .i64 (K1 : Int), .bool true]) (by simp [results, Try.results15, go_sem, p0, p1]) rfl (by rw [HV.out.1, HV.out.2.1, HV.out.2.2, HKE.out]; exact ⟨_, rfl, ⟨_, HUE.out, OW2.out⟩, X4.out⟩)
end Go.Proofs.Ytgkifandgacncaa
