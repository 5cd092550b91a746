/-
  Lists of formulas in the program: IsFormula, IndexFunc and ContainsFunc over strings, Concat, with, sides. Condition: sizes up to 2^20.
-/
import Derived.Test.YtmfgcpeddfbngaaFmG
namespace Go.Proofs.Ytmfgcpeddfbngaa
open Go.RowKit Go.Sort
theorem i_IsFormula (s : ByteArray) (w : World) : Calls Try.prog 71 #[.string s] w (RetX w (.bool (isF s))) := by
  cases hg : goodF s with
  | none =>
    have HG := hd hg
    have HF : Hid (isF s = false) := hd (by unfold isF; rw [hg]; rfl)
    clear hg
    go_enter Try.func71, Try.ntmps71
    go_wp2_with fail
    refine (rp_no (i_parse s _) HG).mono ?_
    rintro e w1 ⟨rfl, hx⟩
    go_wp2
    go_ret
    exact RetX.mk (by rw [HF.out]; rfl) hx
  | some f =>
    have HG := hd hg
    have HF : Hid (isF s = true) := hd (by unfold isF; rw [hg]; rfl)
    clear hg
    go_enter Try.func71, Try.ntmps71
    go_wp2_with fail
    refine (rp_yes (i_parse s _) HG).mono ?_
    rintro e w1 ⟨v, rfl, hv, hx⟩
    go_wp2
    go_ret
    exact RetX.mk (by rw [HF.out]; rfl) hx
/-- The function value of g with captured values cs answers p of a string, in w and whatever extends w. -/
def AnsF (g : FuncId) (cs : Array Value) (p : Bs → Bool) (xs : List Bs) (w : World) : Prop := ∀ x ∈ xs, ∀ (w' : World), Ext w w' → Calls Try.prog g (#[.string ⟨x.toArray⟩] ++ cs) w' (RetX w' (.bool (p x)))
def findF (p : Bs → Bool) : List Bs → Int → Int
  | [], _ => -1
  | x :: r, k => if p x then k else findF p r (k + 1)
theorem findF_any (p : Bs → Bool) (xs : List Bs) : ∀ k : Int, 0 ≤ k → decide (0 ≤ findF p xs k) = xs.any p := by
  induction xs with
  | nil => intro k _; rfl
  | cons x r ih =>
    intro k hk
    unfold findF
    rw [List.any_cons]
    cases p x
    · simpa using ih (k + 1) (by omega)
    · simpa using hk
set_option maxHeartbeats 800000 in
theorem slices_IndexFuncF (xs : List Bs) (v : Value) (g : FuncId) (cs : Array Value) (p : Bs → Bool) (w : World) (h : Rd_StringS w v xs) (hl : xs.length ≤ 1073741824) (hg : Enters g) (hp : Hid (AnsF g cs p xs w)) :
    Calls Try.prog 139 #[v, .func (.func g) #[] cs] w (RetX w (.int .i64 (findF p xs 0))) := by
  obtain ⟨A, c, rfl, h1, h2, ha⟩ := h.form
  clear h
  go_enter Try.func139, Try.ntmps139
  go_wp2
  go_loopw [8] (fun i wr => ∃ k : Nat, k ≤ xs.length ∧ i = .int .i64 k ∧ Hid (findF p xs 0 = findF p (xs.drop k) k) ∧ Ext w wr) (fun i _ => xs.length - (intOf i).toNat)
  case atStart => exact ⟨0, by omega, rfl, hd rfl, Ext.refl _⟩
  case round =>
    obtain ⟨k, hk, rfl, HR, hx⟩ := hrel
    have HX := hd hx
    clear hx
    by_cases hlt : k < xs.length
    · obtain ⟨a, rfl, hc0⟩ := Rd_StringS.at_ ha hlt
      have hc := HX.out.cell hc0
      clear hc0
      have hdc : xs.drop k = xs[k] :: xs.drop (k + 1) := List.drop_eq_getElem_cons hlt
      rw [hdc] at HR
      have hm := hd (List.getElem_mem hlt)
      clear hdc
      generalize xs[k] = y at *
      unfold Enters at hg
      obtain ⟨b, hb⟩ : ∃ b, p y = b := ⟨_, rfl⟩
      have HB := hd hb
      clear hb
      go_wp2_with fail
      refine (hp.out y hm.out _ HX.out).mono ?_
      rintro e w1 ⟨rfl, hx1⟩
      have HX1 := hd (HX.out.trans hx1)
      clear hx1 hc
      rw [HB.out]
      cases b
      · go_wp2
        go_roundw
        case rel => exact ⟨k + 1, by omega, by go_num, hd (by rw [HR.out, findF, HB.out]; rfl), HX1.out⟩
        case measure => simp [intOf]; omega
      · go_wp2
        go_ret
        exact RetX.mk (by rw [HR.out, findF, HB.out]; rfl) HX1.out
    · go_wp2
      go_ret
      exact RetX.mk (by rw [HR.out, List.drop_eq_nil_of_le (by omega)]; rfl) HX.out
theorem slices_ContainsFuncF (xs : List Bs) (v : Value) (g : FuncId) (cs : Array Value) (p : Bs → Bool) (w : World) (h : Rd_StringS w v xs) (hl : xs.length ≤ 1073741824) (hg : Enters g) (hp : Hid (AnsF g cs p xs w)) :
    Calls Try.prog 119 #[v, .func (.func g) #[] cs] w (RetX w (.bool (xs.any p))) := by
  have HB := hd (findF_any p xs 0 (Int.le_refl _))
  have HA := hd h
  clear h
  go_enter Try.func119, Try.ntmps119
  go_wp2_with fail
  refine (slices_IndexFuncF xs v g cs p _ HA.out hl hg hp).mono ?_
  rintro e w1 ⟨rfl, hx⟩
  go_wp2
  go_ret
  exact RetX.mk (by rw [← HB.out]; rfl) hx
theorem blk2S {w : World} {b : Nat} {x y : Value} {e : TypeId} (h : w.heap[b]? = some (.cells #[x, y] e)) : w.cell? ⟨b, 0, none⟩ = some x ∧ w.cell? ⟨b, 1, none⟩ = some y := by simp [World.cell?, h]
theorem own_zero (W : World) {e : TypeId} (cs : Array Value) (cap : Nat) {base : Nat} (hc : cs.size = cap) (hm : cap ≤ maxLen) (hb : base ≤ W.heap.size) : Own (W.alloc (.cells cs e)) base e 1 (.slice (some ⟨W.heap.size, 0, none⟩) 0 cap) 0 [] :=
  ⟨rfl, .inr ⟨W.heap.size, cap, cs, rfl, hb, heap_alloc_new W _, Nat.zero_le _, hm, by rw [hc, Nat.mul_one], by simp⟩⟩
/-- slices.Grow(nil, n): an empty slice of the call's own. -/
theorem slices_GrowS (n : Nat) (w : World) (hn : n ≤ 1073741824) : Calls Try.prog 140 #[.slice none 0 0, .int .i64 n] w (fun e w' => ∃ v, e = .returned v ∧ OwnS w' w.heap.size v [] ∧ Ext w w') := by
  rcases Nat.eq_zero_or_pos n with rfl | h0
  · refine (Any8.slices_Grow_room Try.laysGrowS none 0 0 0 w (Nat.le_refl _) (by omega) (by omega) (Nat.le_refl _)).mono ?_
    rintro e w' ⟨rfl, rfl⟩
    exact ⟨_, rfl, own_nil _ _ _ _, Ext.refl _⟩
  · obtain ⟨i, hi, hz, hz1, hz2⟩ := info_parts info_string
    refine (Any8.slices_Grow_grow Try.laysGrowS i (.string .empty) hi hz (by rw [hz1]; decide) none 0 0 n [] w (Nat.le_refl _) (by omega) (by rw [hz2]; omega) (by omega) (by simp) (fun _ => rfl) (fun a h => by cases h)).mono ?_
    rintro e w' ⟨rfl, rfl⟩
    have hc1 := grownCap_ge w (0 + n) 0 9
    have hc2 := grownCap_le_maxLen w (0 + n) 0 9 (by unfold maxLen; omega)
    have hX : Ext w w.drew := (Ext.refl w).drew
    refine ⟨_, rfl, own_zero w.drew _ _ ?_ hc2 (Nat.le_refl _), hX.alloc _⟩
    have hg : 0 + n ≤ grownCap w (0 + n) 0 (Try.laysGrowS_ren.t 25) := hc1
    rw [Array.size_append, Array.size_append, size_zeroCells, size_zeroCells]
    show 0 + (0 + n - 0) * 1 + (grownCap w (0 + n) 0 (Try.laysGrowS_ren.t 25) - (0 + n)) * 1 = grownCap w (0 + n) 0 (Try.laysGrowS_ren.t 25)
    omega
/-- slices.Concat(nil, xs). -/
theorem slices_ConcatS (xs : List Bs) (u : Value) (b : Nat) (w : World) (h : Rd_StringS w u xs) (hl : xs.length ≤ 1048576) (hb : w.heap[b]? = some (.cells #[.slice none 0 0, u] 22 (0, 0))) :
    Calls Try.prog 121 #[.slice (some ⟨b, 0, none⟩) 2 2] w (fun e w' => ∃ v, e = .returned v ∧ OwnS w' w.heap.size v xs ∧ Ext w w') := by
  obtain ⟨k0, k1⟩ := blk2S hb
  have HR := hd h
  have HB := hd hb
  obtain ⟨A, c, rfl, h1, h2, -⟩ := h.form
  clear h hb
  generalize hn : xs.length = n at *
  have HN := hd hn
  clear hn
  go_enter Try.func121, Try.ntmps121
  go_wp2
  go_loop [11, 3, 5] (fun i z _ => ∃ k : Nat, k ≤ 2 ∧ i = .int .i64 (k : Int) ∧ z = .int .i64 ((if k = 2 then n else 0 : Nat) : Int)) (fun i _ _ => 2 - (intOf i).toNat)
  case atStart => exact ⟨0, by omega, rfl, rfl⟩
  case round =>
    obtain ⟨k, hk, rfl, rfl⟩ := hrel
    rcases (by omega : k = 0 ∨ k = 1 ∨ k = 2) with rfl | rfl | rfl
    · go_wp2
      go_round
      case rel => exact ⟨1, by omega, rfl, rfl⟩
      case measure => decide
    · go_wp2
      go_round
      case rel => exact ⟨2, by omega, rfl, by first | rfl | simp⟩
      case measure => decide
    · rw [if_pos rfl]
      go_wp2_with fail
      refine (slices_GrowS n _ (by omega)).mono ?_
      rintro e w1 ⟨v1, rfl, ho1, hx1⟩
      have O1 := hd ho1
      have X1 := hd hx1
      clear ho1 hx1
      go_wp2
      go_loopw [27, 6, 8] (fun i v _ wr => ∃ k : Nat, k ≤ 2 ∧ i = .int .i64 (k : Int) ∧ OwnS wr w.heap.size v (if k = 2 then xs else []) ∧ Ext w wr) (fun i _ _ _ => 2 - (intOf i).toNat)
      case atStart => exact ⟨0, by omega, rfl, O1.out, X1.out⟩
      case round =>
        obtain ⟨k, hk, rfl, ho, hx⟩ := hrel
        have HX := hd hx
        have hls := hx.size
        have m0 := hx.cell k0
        have m1 := hx.cell k1
        have HR2 := hd (HR.out.ext hx)
        clear hx
        rcases (by omega : k = 0 ∨ k = 1 ∨ k = 2) with rfl | rfl | rfl
        · have HO : Hid (OwnS wr w.heap.size _ []) := hd ho
          have HZ : Hid (Rd_StringS wr (.slice none 0 0) []) := hd (Rd.nil wr 1)
          clear ho
          go_wp2_with (at_builtin; refine appSS wr HO.out HZ.out rfl _ _ rfl (by rfl) (by rfl) (by simp) hls ?_; intro v' w2 ho2 hg2 _)
          go_roundw
          case rel => exact ⟨1, by omega, rfl, ho2, ext_appS HX.out hg2 (ownS_ge HO.out)⟩
          case measure => simp [intOf]
        · have HO : Hid (OwnS wr w.heap.size _ []) := hd ho
          clear ho
          go_wp2_with (at_builtin; refine appSS wr HO.out HR2.out rfl _ _ rfl (by rfl) (by rfl) (by simp; rw [HN.out]; omega) hls ?_; intro v' w2 ho2 hg2 _)
          go_roundw
          case rel => exact ⟨2, by omega, rfl, ho2, ext_appS HX.out hg2 (ownS_ge HO.out)⟩
          case measure => simp [intOf]
        · have HO : Hid (OwnS wr w.heap.size _ xs) := hd ho
          clear ho
          go_wp2
          go_ret
          exact ⟨_, rfl, HO.out, HX.out⟩
/-- with(nil, xs...). -/
theorem i_with (xs : List Bs) (u : Value) (w : World) (h : Rd_StringS w u xs) (hl : xs.length ≤ 1048576) :
    Calls Try.prog 90 #[.slice none 0 0, u] w (fun e w' => ∃ v, e = .returned v ∧ OwnS w' w.heap.size v (sortB xs) ∧ Ext w w') := by
  have HR := hd h
  obtain ⟨A, c, rfl, -⟩ := h.form
  clear h
  have X0 : Hid (Ext w (w.alloc (.cells #[.slice none 0 0, .slice A xs.length c] 22))) := hd (Ext.new _ _)
  have HB := hd (heap_alloc_new w (.cells #[.slice none 0 0, .slice A xs.length c] 22))
  have HR1 := hd (HR.out.ext X0.out)
  have HS : Hid (sortB xs = Lib.compact (xs.mergeSort leB)) := hd rfl
  go_enter Try.func90, Try.ntmps90
  go_wp2_with fail
  refine (slices_ConcatS xs _ _ _ HR1.out hl HB.out).mono ?_
  rintro e w1 ⟨v1, rfl, ho1, hx1⟩
  have O1 := hd (own_rebase (base' := w.heap.size) ho1 (by simp))
  have X1 := hd (X0.out.trans hx1)
  clear ho1 hx1
  go_wp2_with fail
  refine (slices_SortF xs v1 _ _ O1.out (by omega)).mono ?_
  rintro e w2 ⟨rfl, ho2, hg2⟩
  have O2 : Hid (Own w2 w.heap.size 9 1 v1 (xs.mergeSort leB).length (strs (xs.mergeSort leB))) := hd ho2
  have X2 := hd (ext_appS X1.out hg2 (ownS_ge O1.out))
  clear ho2 hg2
  go_wp2_with fail
  refine (slices_CompactS (xs.mergeSort leB) v1 _ _ O2.out (by rw [List.length_mergeSort]; omega)).mono ?_
  rintro e w3 ⟨v3, rfl, ho3, hg3, -⟩
  have X3 := hd (ext_appS X2.out hg3 (fun g hg => (own_blocks O2.out g hg).1))
  have O3 : Hid (OwnS w3 w.heap.size v3 (sortB xs)) := hd ho3
  clear ho3 hg3
  go_wp2
  go_ret
  exact ⟨_, rfl, O3.out, X3.out⟩
end Go.Proofs.Ytmfgcpeddfbngaa
