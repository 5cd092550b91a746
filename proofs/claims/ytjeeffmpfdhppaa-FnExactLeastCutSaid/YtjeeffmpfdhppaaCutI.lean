/-
  LeastCut of the program's side. Condition: sizes up to 2^20.
-/
import Derived.Test.YtjeeffmpfdhppaaCutS
import Derived.Test.YtjeeffmpfdhppaaChsK
namespace Go.Proofs.Ytjeeffmpfdhppaa
open Go.RowKit
/-- The first i numbers are one less. -/
def decT (s : List Int) (i : Nat) : List Int := (s.take i).map (· - 1) ++ s.drop i
@[simp] theorem decT_len (s : List Int) (i : Nat) : (decT s i).length = s.length := by unfold decT; simp; omega
theorem decT_get {s : List Int} {i : Nat} (h : i < s.length) : (decT s i)[i]? = some s[i] := by
  unfold decT
  rw [List.getElem?_append_right (by simp; omega)]
  simp [Nat.min_eq_left (Nat.le_of_lt h), h]
theorem decT_set {s : List Int} {i : Nat} (h : i < s.length) : (decT s i).set i (s[i] - 1) = decT s (i + 1) := by
  unfold decT
  have e : ((s.take i).map (· - 1)).length = i := by simp; omega
  rw [List.set_append_right _ _ (by omega), drop_cons h, e, Nat.sub_self, List.set_cons_zero, List.take_succ_eq_append_getElem h, List.map_append, List.append_assoc]
  rfl
theorem decT_end (s : List Int) : decT s s.length = decI s := by unfold decT decI; simp
/-- The first j lists are one less. -/
def decC (C : List (List Int)) (j : Nat) : List (List Int) := (C.take j).map decI ++ C.drop j
@[simp] theorem decC_len (C : List (List Int)) (j : Nat) : (decC C j).length = C.length := by unfold decC; simp; omega
theorem decC_get {C : List (List Int)} {j : Nat} (h : j < C.length) : (decC C j)[j]? = some C[j] := by
  unfold decC
  rw [List.getElem?_append_right (by simp; omega)]
  simp [Nat.min_eq_left (Nat.le_of_lt h), h]
theorem decC_set {C : List (List Int)} {j : Nat} (h : j < C.length) : (decC C j).set j (decI C[j]) = decC C (j + 1) := by
  unfold decC
  have e : ((C.take j).map decI).length = j := by simp; omega
  rw [List.set_append_right _ _ (by omega), drop_cons h, e, Nat.sub_self, List.set_cons_zero, List.take_succ_eq_append_getElem h, List.map_append, List.append_assoc]
  rfl
theorem ownI_storeC {w : World} {base : Nat} {e : TypeId} {g n cap : Nat} {xs : List Int} (h : OwnI w base e (.slice (some ⟨g, 0, none⟩) n cap) xs) (hn : xs.length = n) {k : Nat} (hk : k < n) :
    w.frozen? ⟨g, k, none⟩ = false ∧ Hid (∀ x, OwnI (w.setCell ⟨g, k, none⟩ (.int .i64 x)) base e (.slice (some ⟨g, 0, none⟩) n cap) (xs.set k x)) := by
  subst hn
  obtain ⟨_, h2, h3⟩ := own_store h hk
  refine ⟨h2, hd fun x => ?_⟩
  have := h3.out (.int .i64 x)
  unfold OwnI
  rw [← ints_set, List.length_set]
  exact this
theorem inner_upd {w w' : World} {lo hi : Nat} {e : TypeId} {vs : List Value} {xss : List (List Int)} {k : Nat} {u : Value} {ys : List Int} (h : Inner w lo hi e vs xss) (hk : k < xss.length) (hku : vs[k]? = some u) (hg : w.grownBy w' u.ownBlock) (hu : OwnI w' lo e u ys) : Inner w' lo hi e vs (xss.set k ys) := by
  have hOu := h.2.1 k u _ hku (List.getElem?_eq_getElem hk)
  refine ⟨by simp [h.1], fun i x zs hx hz => ?_, h.2.2⟩
  by_cases hik : i = k
  · subst hik
    rw [hku] at hx
    injection hx with hx
    subst hx
    rw [List.getElem?_set_self hk] at hz
    injection hz with hz
    subst hz
    exact ⟨hu, hOu.2⟩
  · rw [List.getElem?_set_ne (fun e => hik e.symm)] at hz
    exact ⟨own_grown (h.2.1 i x zs hx hz).1 hg fun g a b => h.2.2 i k x u g hik hx hku a b, (h.2.1 i x zs hx hz).2⟩
/-- While the lists of C are gone through: the j-th is next; the best lies in no block of those to come. -/
structure CutW (w W : World) (lo hi : Nat) (v : Value) (C : List (List Int)) (vs : List Value) (bv : Value) (best : List Int) (j : Nat) : Prop where
  own : Own W lo 45 1 v C.length vs
  inn : Inner W lo hi 3 vs (decC C j)
  bst : OwnI W (w.heap.size + 1) 3 bv best
  sep : ∀ i u g, j ≤ i → vs[i]? = some u → bv.ownBlock = some g → u.ownBlock = some g → False
theorem CutW.ext {w W W' : World} {lo hi : Nat} {v : Value} {C : List (List Int)} {vs : List Value} {bv : Value} {best : List Int} {j : Nat} (h : CutW w W lo hi v C vs bv best j) (hx : Ext W W') : CutW w W' lo hi v C vs bv best j :=
  ⟨own_ext h.own hx, h.inn.ext hx, own_ext h.bst hx, h.sep⟩
/-- The j-th list is one less: the old best stays. -/
theorem CutW.keep {w W W' : World} {lo hi : Nat} {v : Value} {C : List (List Int)} {vs : List Value} {bv u : Value} {best : List Int} {j : Nat} (h : CutW w W lo hi v C vs bv best j) (hj : j < C.length) (hu : vs[j]? = some u) (hg : W.grownBy W' u.ownBlock) (ho : OwnI W' lo 3 u (decI C[j])) : CutW w W' lo hi v C vs bv best (j + 1) := by
  have hOu := h.inn.2.1 j u _ hu (decC_get hj)
  refine ⟨own_grown h.own hg fun g a b => own_ne h.own hOu.1 (by decide) a b, ?_, own_grown h.bst hg fun g a b => h.sep j u g (Nat.le_refl _) hu a b, fun i x g hi => h.sep i x g (by omega)⟩
  rw [← decC_set hj]
  exact inner_upd h.inn (by simpa using hj) hu hg ho
/-- The j-th list is the best. -/
theorem CutW.take {w W : World} {lo hi : Nat} {v : Value} {C : List (List Int)} {vs : List Value} {bv u : Value} {best : List Int} {j : Nat} (h : CutW w W lo hi v C vs bv best (j + 1)) (hj : j < C.length) (hu : vs[j]? = some u) (hlo : w.heap.size + 1 ≤ lo) : CutW w W lo hi v C vs u (decI C[j]) (j + 1) := by
  have hget : (decC C (j + 1))[j]? = some (decI C[j]) := by rw [← decC_set hj, List.getElem?_set_self (by simpa using hj)]
  exact ⟨h.own, h.inn, own_rebase (h.inn.2.1 j u _ hu hget).1 hlo, fun i x g hi hx a b => h.inn.2.2 i j x u g (by omega) hx hu b a⟩
set_option maxRecDepth 100000 in
set_option maxHeartbeats 3200000 in
theorem i_LeastCut (g : Chg) (gv : Value) (w : World) (h : RdC w gv g) (b : Bd_Charged g) (_ : I64_Charged g) :
    Calls Try.prog 30 #[gv] w (RetK w ((lcR g).2.1 : Nat) (lcR g).1 (lcR g).2.2) := by
  have HB := hd b
  obtain ⟨A, c, A', c', rfl⟩ := h.form
  have HG := hd h
  clear h b
  obtain ⟨q, hq⟩ : ∃ q, goodC g = q := ⟨_, rfl⟩
  have HQ := hd hq
  have HI := hd (fun e => goodC_inv (hq.trans e) : q = true → _)
  clear hq
  cases q
  · have HN : Hid (lcR g = ([], 0, false)) := hd (by unfold lcR; rw [HQ.out]; rfl)
    go_enter Try.func30, Try.ntmps30
    go_wp2_with fail
    refine (i_IsCharged g _ _ (HG.out.ext (Ext.new _ _))).mono ?_
    rw [HQ.out]
    rintro e w1 ⟨rfl, hx1⟩
    go_wp2
    go_ret3
    exact RetK.mk (by rw [HN.out]; rfl) (by rw [HN.out]) (by rw [HN.out]; exact ownI_nil _ _ _) hx1.box
  · obtain ⟨hn1, hn8, hes, -⟩ := HI.out rfl
    have HN0 : Hid (lcR g = lcF (cutC g) g.n.toNat (2 ^ g.n.toNat)) := hd (by unfold lcR; rw [HQ.out, if_pos rfl])
    clear HI
    have HCC : Hid (∀ s, cutC g s = (cutL g s).length ∧ cutC g s ≤ 12) := hd fun s => ⟨rfl, Nat.le_trans (selN_len _ _) hes⟩
    obtain ⟨N, hN⟩ : ∃ N : Nat, g.n = N := ⟨g.n.toNat, by omega⟩
    rw [hN] at HG HN0 hn1 hn8 ⊢
    rw [Int.toNat_natCast] at HN0
    have HN : Hid (lcR g = lcT (cutC g) (midL N 0) ([], 0, false)) := hd (by rw [HN0.out]; exact cut_first _ (by omega))
    have HNE := hd hN
    clear hN HN0
    have BX : Hid (∀ w' : World, Ext (w.alloc (.cells #[.int .i64 (N : Int), .slice A g.es.length c, .slice A' g.cs.length c'] 51)) w' → w'.cell? ⟨w.heap.size, 0, none⟩ = some (.int .i64 (N : Int)) ∧ w'.cell? ⟨w.heap.size, 1, none⟩ = some (.slice A g.es.length c) ∧ w'.cell? ⟨w.heap.size, 2, none⟩ = some (.slice A' g.cs.length c')) := hd fun w' hx => blk3 (hx.heap (blk_new (w := w) (.cells #[.int .i64 (N : Int), .slice A g.es.length c, .slice A' g.cs.length c'] 51) rfl))
    go_enter Try.func30, Try.ntmps30
    go_wp2_with fail
    refine (i_IsCharged g _ _ (HG.out.ext (Ext.new _ _))).mono ?_
    rw [HQ.out]
    rintro e w1 ⟨rfl, hx1⟩
    obtain ⟨k0, k1, k2⟩ := BX.out _ hx1
    have X1 := hd hx1
    clear hx1
    go_wp2
    go_loopw [18, 5, 6] (fun x fv bv wr => ∃ (k : Nat) (best : List Int) (few : Nat) (fnd : Bool) (fi : Int) (bw : Value), bw = bv ∧ k ≤ N + 1 ∧ x = .int .i64 (k : Int) ∧ OwnI wr (w.heap.size + 1) 3 bv best ∧ fv = .int .i64 fi ∧ (fnd = false → fi = -1 ∧ best = [] ∧ few = 0) ∧ (fnd = true → fi = (few : Int)) ∧ few ≤ 12 ∧ Hid (lcR g = lcT (cutC g) (midL N k) (best, few, fnd)) ∧ Ext (w.alloc (.cells #[.int .i64 (N : Int), .slice A g.es.length c, .slice A' g.cs.length c'] 51)) wr) (fun x _ _ _ => N + 1 - (intOf x).toNat)
    case atStart => exact ⟨0, [], 0, false, -1, _, rfl, by omega, rfl, ownI_nil _ _ _, rfl, fun _ => ⟨rfl, rfl, rfl⟩, (fun h => by cases h), by omega, HN, X1.out⟩
    case round =>
      obtain ⟨k, best, few, fnd, fi, bw, rfl, hk, rfl, ho, rfl, hf0, hf1, hfb, HA, hx⟩ := hrel
      clear k0 k1 k2
      obtain ⟨k0, k1, k2⟩ := BX.out _ hx
      have HX := hd hx
      have HO := hd ho
      have HF0 := hd hf0
      have HF1 := hd hf1
      clear ho hx hf0 hf1
      by_cases hlt : k ≤ N
      · by_cases hm1 : 3 * k < N
        · have HA2 : Hid (lcR g = lcT (cutC g) (midL N (k + 1)) (best, few, fnd)) := hd (by rw [HA.out, midL_step hlt, if_pos (.inl hm1)]; rfl)
          have hm1' : 3 * (k : Int) < (N : Int) := by omega
          go_wp2
          go_roundw
          case rel => exact ⟨k + 1, best, few, fnd, fi, _, rfl, by omega, by go_num, HO.out, rfl, HF0.out, HF1.out, hfb, HA2, HX.out⟩
          case measure => simp [intOf]; omega
        by_cases hm2 : 2 * N < 3 * k
        · have HA2 : Hid (lcR g = lcT (cutC g) (midL N (k + 1)) (best, few, fnd)) := hd (by rw [HA.out, midL_step hlt, if_pos (.inr hm2)]; rfl)
          have hm1' : ¬ 3 * (k : Int) < (N : Int) := by omega
          have hm2' : 2 * (N : Int) < 3 * (k : Int) := by omega
          go_wp2
          go_roundw
          case rel => exact ⟨k + 1, best, few, fnd, fi, _, rfl, by omega, by go_num, HO.out, rfl, HF0.out, HF1.out, hfb, HA2, HX.out⟩
          case measure => simp [intOf]; omega
        have hm1' : ¬ 3 * (k : Int) < (N : Int) := by omega
        have hm2' : ¬ 2 * (N : Int) < 3 * (k : Int) := by omega
        have HA2 : Hid (lcR g = lcT (cutC g) ((chL N k [] 1).map decI ++ midL N (k + 1)) (best, few, fnd)) := hd (by rw [HA.out, midL_step hlt, if_neg (by omega)])
        have HSM := hd (chL_mid N (by omega) k (by omega))
        go_wp2_with fail
        refine (i_choices N k 256 _ (by omega) (by omega) (by omega) HSM.out.1).mono ?_
        rintro e w2 ⟨v, rfl, ⟨vs, hvs, -, hin⟩, hx2⟩
        have hcl := HSM.out.1
        have HSM : Hid (∀ s ∈ chL N k [] 1, s.length ≤ 8 ∧ 1 ≤ s.length ∧ ∀ i ∈ s, 1 ≤ i ∧ i ≤ (N : Int)) := hd fun s hs => ⟨(HSM.out.2 s hs).1, by have := (HSM.out.2 s hs).2.1; omega, (HSM.out.2 s hs).2.2⟩
        generalize chL N k [] 1 = C at *
        obtain ⟨R, hre⟩ : ∃ R, midL N (k + 1) = R := ⟨_, rfl⟩
        have HRE := hd hre
        rw [hre] at HA2
        clear hre hm1 hm2 hm1' hm2' HA
        have hszr : w.heap.size + 1 ≤ wr.heap.size := by have := HX.out.size; simpa using this
        have X2 := hd (HX.out.trans hx2)
        obtain ⟨D, d, rfl, -⟩ : ∃ D d, v = .slice D C.length d ∧ True := by
          obtain ⟨_, A9, c9, h9, _⟩ := own_rd hvs
          exact ⟨A9, c9, h9, trivial⟩
        have HW : Hid (CutW w w2 wr.heap.size w2.heap.size (.slice D C.length d) C vs bw best 0) := hd ⟨hvs, by unfold decC; simpa using hin, own_ext HO.out hx2, fun i u g _ hu a b => by
          have h1 := (own_blocks HO.out g a).2
          have hi : i < vs.length := (List.getElem?_eq_some_iff.1 hu).1
          have h2 := (own_blocks (hin.2.1 i u _ hu (List.getElem?_eq_getElem (by rw [← hin.1]; exact hi))).1 g b).1
          omega⟩
        have HVL := hd hin.1
        clear hvs hin hx2 HO k0 k1 k2
        obtain ⟨k0, k1, k2⟩ := BX.out _ X2.out
        obtain ⟨wo, rfl⟩ : ∃ wo : World, wo = wr := ⟨_, rfl⟩
        generalize w2.heap.size = hi2 at *
        go_wp2
        go_loopw [39, 5, 6] (fun x fv bv wr => ∃ (j : Nat) (best : List Int) (few : Nat) (fnd : Bool) (fi : Int) (bw : Value), bw = bv ∧ j ≤ C.length ∧ x = .int .i64 (j : Int) ∧ CutW w wr wo.heap.size hi2 (.slice D C.length d) C vs bv best j ∧ fv = .int .i64 fi ∧ (fnd = false → fi = -1 ∧ best = [] ∧ few = 0) ∧ (fnd = true → fi = (few : Int)) ∧ few ≤ 12 ∧ Hid (lcR g = lcT (cutC g) ((C.drop j).map decI ++ R) (best, few, fnd)) ∧ Ext (w.alloc (.cells #[.int .i64 (N : Int), .slice A g.es.length c, .slice A' g.cs.length c'] 51)) wr) (fun x _ _ _ => C.length - (intOf x).toNat)
        case atStart => exact ⟨0, best, few, fnd, fi, _, rfl, by omega, rfl, HW.out, rfl, HF0.out, HF1.out, hfb, HA2, X2.out⟩
        case round =>
          clear HW HF0 HF1 hfb HA2 X2 k0 k1 k2
          obtain ⟨j, best, few, fnd, fi, bw, rfl, hj, rfl, hcw, rfl, hf0, hf1, hfb, HA3, hx3⟩ := hrel
          have HW := hd hcw
          have HX3 := hd hx3
          have HF0 := hd hf0
          have HF1 := hd hf1
          clear hcw hx3 hf0 hf1
          by_cases hlt2 : j < C.length
          · obtain ⟨hs8, hs1, hse⟩ := HSM.out (C[j]) (List.getElem_mem _)
            have HSE := hd hse
            clear hse
            obtain ⟨u, hu⟩ : ∃ u, vs[j]? = some u := ⟨_, List.getElem?_eq_getElem (by rw [HVL.out]; exact hlt2)⟩
            have hou := (HW.out.inn.2.1 j u _ hu (decC_get hlt2)).1
            obtain ⟨_, D', d', hD, -, -, hcl2⟩ := own_rd HW.out.own
            injection hD with hD1 _ hD3
            subst hD1; subst hD3
            obtain ⟨a0, rfl, hcell⟩ := hcl2 j _ hu
            clear hcl2
            have HKEEP : Hid (∀ W', wr.grownBy W' u.ownBlock → OwnI W' wo.heap.size 3 u (decI C[j]) → CutW w W' wo.heap.size hi2 (.slice (some a0) C.length d) C vs bw best (j + 1)) := hd fun W' hg ho => HW.out.keep hlt2 hu hg ho
            have HTAKE : Hid (∀ W', CutW w W' wo.heap.size hi2 (.slice (some a0) C.length d) C vs bw best (j + 1) → CutW w W' wo.heap.size hi2 (.slice (some a0) C.length d) C vs u (decI C[j]) (j + 1)) := hd fun W' h => h.take hlt2 hu hszr
            rw [drop_cons hlt2, List.map_cons] at HA3
            generalize C[j] = s at *
            obtain ⟨h9, -, -⟩ | ⟨gb, cp, rfl, hgb, hgl, hnc, hcm⟩ := own_form hou
            · exfalso
              subst h9
              have := hou.1
              rcases hou.2 with ⟨_, hz⟩ | ⟨_, _, _, hz, _⟩
              · omega
              · cases hz
            have HDE := hd (decT_end s)
            obtain ⟨L, hLL⟩ : ∃ L, s.length = L := ⟨_, rfl⟩
            rw [hLL] at hs8 hs1 hnc hou HKEEP HTAKE hcell
            have HOU := hd hou
            have HL := hd hLL
            clear hou hu hLL
            obtain ⟨wp, rfl⟩ : ∃ wp : World, wp = wr := ⟨_, rfl⟩
            go_wp2
            go_loopw [45] (fun x wr => ∃ i : Nat, i ≤ L ∧ x = .int .i64 (i : Int) ∧ OwnI wr wo.heap.size 3 (.slice (some ⟨gb, 0, none⟩) L cp) (decT s i) ∧ wp.grownBy wr (some gb)) (fun x _ => L - (intOf x).toNat)
            case atStart => exact ⟨0, by omega, rfl, by unfold decT; simpa using HOU.out, grown_refl _ _⟩
            case round =>
              obtain ⟨i, hi, rfl, hoz, hgz⟩ := hrel
              by_cases hlt3 : i < L
              · have his : i < s.length := by rw [HL.out]; exact hlt3
                have hx12 := HSE.out (s[i]) (List.getElem_mem _)
                obtain ⟨hfr, HST⟩ := ownI_storeC hoz (by rw [decT_len, HL.out]) hlt3
                have hc := World.ownsRow.cells hoz (g := gb) rfl i (.int .i64 s[i]) (by unfold ints; rw [List.getElem?_map, decT_get his]; rfl)
                have hc : wr.cell? ⟨gb, i, none⟩ = some (.int .i64 s[i]) := by by_cases hi0 : i = 0 <;> simpa [Addr.add, hi0] using hc
                have HSET := hd (decT_set his)
                have HG2 : Hid (∀ y, wp.grownBy (wr.setCell ⟨gb, i, none⟩ (.int .i64 y)) (some gb)) := hd fun y => grown_set hgz _ _
                clear hoz hgz
                generalize s[i] = y at *
                clear his
                obtain ⟨hy1, hy2⟩ := hx12
                go_wp2
                go_roundw
                case rel => exact ⟨i + 1, by omega, by go_num, by rw [← HSET.out]; exact HST.out _, HG2.out _⟩
                case measure => simp [intOf]; omega
              · obtain rfl : i = L := by omega
                rw [← HL.out, HDE.out, HL.out] at hoz
                have HOZ := hd hoz
                have HK := hd (HKEEP.out _ hgz hoz)
                have HX4 : Hid (Ext (w.alloc (.cells #[.int .i64 (N : Int), .slice A g.es.length c, .slice A' g.cs.length c'] 51)) wr) := hd (HX3.out.grown hgz HX3.out.size (fun g hg => by cases hg; simp; omega))
                have HT2 := HTAKE
                clear hoz hgz HKEEP
                obtain ⟨k0, k1, k2⟩ := BX.out _ HX4.out
                have HLD : Hid ((decI s).length = i) := hd (by unfold decI; rw [List.length_map]; exact HL.out)
                generalize decI s = z at *
                go_wp2_with fail
                refine (i_crossing g _ z _ _ (HG.out.ext HX4.out.box) HB.out.1 (OwnI.rd HOZ.out) (by have := HLD.out; omega)).mono ?_
                rintro e w4 ⟨u4, rfl, hu4, hx4⟩
                obtain ⟨A5, c5, rfl, -⟩ := hu4.form
                have HX5 := hd (HX4.out.trans hx4)
                have HK5 := hd (HK.out.ext hx4)
                have HT5 := hd (HT2.out _ HK5.out)
                clear hx4 hu4 HK HT2 HTAKE k0 k1 k2
                obtain ⟨hcc, hcb⟩ := HCC.out z
                rw [← hcc] at *
                clear hcc
                have HST : Hid (lcG (cutC g) (best, few, fnd) z = if !fnd || decide (cutC g z < few) then (z, cutC g z, true) else (best, few, fnd)) := hd rfl
                have HA4 : Hid (lcR g = lcT (cutC g) ((C.drop (j + 1)).map decI ++ R) (lcG (cutC g) (best, few, fnd) z)) := hd (by rw [HA3.out]; rfl)
                generalize cutC g z = cc at *
                cases fnd
                · obtain ⟨rfl, rfl, rfl⟩ := HF0.out rfl
                  have HA5 : Hid (lcR g = lcT (cutC g) ((C.drop (j + 1)).map decI ++ R) (z, cc, true)) := hd (by rw [HA4.out, HST.out]; rfl)
                  go_wp2
                  go_roundw
                  case rel => exact ⟨j + 1, z, cc, true, (cc : Int), _, rfl, by omega, by go_num, HT5.out, rfl, (fun h => by cases h), fun _ => rfl, hcb, HA5, HX5.out⟩
                  case measure => simp [intOf]; omega
                obtain rfl := HF1.out rfl
                by_cases hc1 : cc < few
                · have HA5 : Hid (lcR g = lcT (cutC g) ((C.drop (j + 1)).map decI ++ R) (z, cc, true)) := hd (by rw [HA4.out, HST.out, decide_eq_true hc1]; rfl)
                  have hc1' : (cc : Int) < (few : Int) := by omega
                  go_wp2
                  go_roundw
                  case rel => exact ⟨j + 1, z, cc, true, (cc : Int), _, rfl, by omega, by go_num, HT5.out, rfl, (fun h => by cases h), fun _ => rfl, hcb, HA5, HX5.out⟩
                  case measure => simp [intOf]; omega
                · have HA5 : Hid (lcR g = lcT (cutC g) ((C.drop (j + 1)).map decI ++ R) (best, few, true)) := hd (by rw [HA4.out, HST.out, decide_eq_false hc1]; rfl)
                  have hc1' : ¬ (cc : Int) < (few : Int) := by omega
                  go_wp2
                  go_roundw
                  case rel => exact ⟨j + 1, best, few, true, (few : Int), _, rfl, by omega, by go_num, HK5.out, rfl, (fun h => by cases h), fun _ => rfl, hfb, HA5, HX5.out⟩
                  case measure => simp [intOf]; omega
          · obtain rfl : j = C.length := by omega
            have HA4 : Hid (lcR g = lcT (cutC g) (midL N (k + 1)) (best, few, fnd)) := hd (by rw [HRE.out, HA3.out, List.drop_eq_nil_of_le (Nat.le_refl _)]; rfl)
            go_wp2
            go_roundw
            case rel => exact ⟨k + 1, best, few, fnd, fi, _, rfl, by omega, by go_num, HW.out.bst, rfl, HF0.out, HF1.out, hfb, HA4, HX3.out⟩
            case measure => simp [intOf]; omega
      · obtain rfl : k = N + 1 := by omega
        have HA4 : Hid (lcR g = (best, few, fnd)) := hd (by rw [HA.out, midL_end]; rfl)
        cases fnd
        · obtain ⟨rfl, rfl, rfl⟩ := HF0.out rfl
          go_wp2
          go_ret3
          exact RetK.mk (by rw [HA4.out]; rfl) (by rw [HA4.out]) (by rw [HA4.out]; exact ownI_nil _ _ _) HX.out.box
        · obtain rfl := HF1.out rfl
          go_wp2
          go_ret3
          exact RetK.mk (by rw [HA4.out]) (by rw [HA4.out]) (by rw [HA4.out]; exact own_rebase HO.out (by omega)) HX.out.box
end Go.Proofs.Ytjeeffmpfdhppaa
