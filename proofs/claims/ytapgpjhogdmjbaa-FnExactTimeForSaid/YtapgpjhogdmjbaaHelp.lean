/-
  What the laws' own helpers do: copy, compare, mark and ask again slices of numbers, of bools, of slices. Conditions: lengths up to 2^30; marks from 0 up to 2^60.
-/
import Derived.Test.YtapgpjhogdmjbaaProg
import Derived.Test.YtapgpjhogdmjbaaBase
namespace Go.Proofs.Ytapgpjhogdmjbaa
open Go.RowKit

theorem info_int : (Try.prog.info? 3).map (fun i => (i.zero, i.size, i.bytes)) = some (some (.int .i64 0), 1, 8) := by kernel_rfl
theorem info_ints : (Try.prog.info? 44).map (fun i => (i.zero, i.size, i.bytes)) = some (some (.slice none 0 0), 1, 24) := by kernel_rfl
theorem info_bool : (Try.prog.info? 4).map (fun i => (i.zero, i.size, i.bytes)) = some (some (.bool false), 1, 1) := by kernel_rfl

def eqI : List Int → List Int → Bool
  | [], [] => true
  | x :: xs, y :: ys => if x = y then eqI xs ys else false
  | _, _ => false
theorem eqI_iff (a b : List Int) : eqI a b = true ↔ a = b := by
  induction a generalizing b with
  | nil => cases b <;> simp [eqI]
  | cons x xs ih => cases b with
    | nil => simp [eqI]
    | cons y ys => simp [eqI]; intro _; exact ih ys
theorem eqI_refl (a : List Int) : eqI a a = true := (eqI_iff a a).2 rfl
def eqB : List Bool → List Bool → Bool
  | [], [] => true
  | x :: xs, y :: ys => if x = y then eqB xs ys else false
  | _, _ => false
theorem eqB_iff (a b : List Bool) : eqB a b = true ↔ a = b := by
  induction a generalizing b with
  | nil => cases b <;> simp [eqB]
  | cons x xs ih => cases b with
    | nil => simp [eqB]
    | cons y ys => simp [eqB]; intro _; exact ih ys
theorem eqB_refl (a : List Bool) : eqB a a = true := (eqB_iff a a).2 rfl
def eqII : List (List Int) → List (List Int) → Bool
  | [], [] => true
  | x :: xs, y :: ys => if eqI x y then eqII xs ys else false
  | _, _ => false
theorem eqII_iff (a b : List (List Int)) : eqII a b = true ↔ a = b := by
  induction a generalizing b with
  | nil => cases b <;> simp [eqII]
  | cons x xs ih => cases b with
    | nil => simp [eqII]
    | cons y ys => simp [eqII, ih, eqI_iff]
theorem eqII_refl (a : List (List Int)) : eqII a a = true := (eqII_iff a a).2 rfl

/-- What szIntS leaves of 'left', or -1. -/
def szI (n : Nat) (left : Int) : Int := if left - (n : Int) < 0 then -1 else left - n
theorem l_szIntS (A : Option Addr) (n c : Nat) (left : Int) (w : World) (h1 : n ≤ 9223372036854775807) (h2 : -1 ≤ left) (h3 : left ≤ 1048576) :
    Calls Try.prog 37 #[.slice A n c, .int .i64 left] w (Ret w (.int .i64 (szI n left))) := by
  go_enter Try.func37, Try.ntmps37
  by_cases h : left - (n : Int) < 0
  all_goals
    go_wp2
    go_ret
    exact Ret.mk (by unfold szI; first | rw [if_pos (by omega)]; rfl | rw [if_neg (by omega)]; rfl)

set_option maxHeartbeats 400000 in
theorem l_toIntS (xs : List Int) (v : Value) (w : World) (h : RdI w v xs) (hl : xs.length ≤ 1073741824) :
    Calls Try.prog 41 #[v] w (RetI w 3 xs) := by
  obtain ⟨A, c, rfl, h1, h2, ha⟩ := h.form
  obtain ⟨i0, hi, hz0, hz1, hz2⟩ := info_parts info_int
  clear h
  go_enter Try.func41, Try.ntmps41
  go_wp2_with (at_make; refine wpList_make_full _ rfl _ _ 44 rfl w.heap.size 3 i0 (.int .i64 0) 1 Try.underlying44 hi hz0 hz1 _ _ _ _ xs.length rfl rfl rfl rfl (by rw [hz2]; omega) (by unfold maxLen; omega) (Nat.le_refl _) ?_; intro w1 hown1 hgrow1)
  have hE : Ext w w1 := (Ext.refl w).grown hgrow1 (Nat.le_refl _) (by simp)
  have hZ : (madeCells (Value.int .i64 0).cells (xs.length * 1)).toList.length = (ints xs).length := by simp [size_madeCells]
  generalize (madeCells (Value.int .i64 0).cells (xs.length * 1)).toList = Z at *
  have HZ := hd hZ
  clear hgrow1 hZ hi hz0 hz1 hz2
  go_loopw [4] (fun i wr => ∃ k : Nat, k ≤ xs.length ∧ i = .int .i64 k ∧ Own wr w.heap.size 3 1 (.slice (some ⟨w.heap.size, 0, none⟩) xs.length xs.length) xs.length ((ints xs).take k ++ Z.drop k) ∧ Ext w wr) (fun i _ => xs.length - (intOf i).toNat)
  case atStart => exact ⟨0, by omega, rfl, by simpa using hown1, hE⟩
  case round =>
    obtain ⟨k, hk, rfl, ho, hx⟩ := hrel
    by_cases hlt : k < xs.length
    · obtain ⟨a, rfl, hc0⟩ := RdI.at_ ha hlt
      have hc := hx.cell hc0
      obtain ⟨⟨u0, hcell⟩, hfr, hst⟩ := own_store ho hlt
      clear hc0
      go_wp2
      go_roundw
      case rel => exact ⟨k + 1, by omega, by go_num, by rw [← splice_set (ints_get hlt) HZ.out]; exact hst.out _, hx.setCell (Nat.le_refl _) _⟩
      case measure => simp [intOf]; omega
    · go_wp2
      go_ret
      obtain rfl : k = xs.length := by omega
      rw [List.take_of_length_le (by simp), List.drop_eq_nil_of_le (by rw [HZ.out]; simp), List.append_nil] at ho
      exact ⟨_, rfl, ho, hx⟩

set_option maxHeartbeats 400000 in
theorem l_eqIntS (xs ys : List Int) (v v' : Value) (w : World) (h : RdI w v xs) (h' : RdI w v' ys) (hl : xs.length ≤ 1073741824) (_hl : ys.length ≤ 1073741824) :
    Calls Try.prog 44 #[v, v'] w (RetQ w (.bool (eqI xs ys))) := by
  obtain ⟨A, c, rfl, h1, h2, ha⟩ := h.form
  obtain ⟨A', c', rfl, h1', h2', ha'⟩ := h'.form
  clear h h'
  go_enter Try.func44, Try.ntmps44
  by_cases hL : xs.length = ys.length
  · have hb : (((xs.length : Nat) : Int) != ((ys.length : Nat) : Int)) = false := by simp [hL]
    have HL := hd hL
    clear hL
    go_wp2
    go_loopw [5] (fun i wr => ∃ k n : Nat, k ≤ xs.length ∧ i = .int .i64 k ∧ Hid (eqI xs ys = eqI (xs.drop k) (ys.drop k)) ∧ wr = w.drewN n) (fun i _ => xs.length - (intOf i).toNat)
    case atStart => exact ⟨0, 0, by omega, rfl, rfl, rfl⟩
    case round =>
      obtain ⟨k, n, hk, rfl, HR, rfl⟩ := hrel
      by_cases hlt : k < xs.length
      · have hlt' : k < ys.length := by rw [← HL.out]; exact hlt
        obtain ⟨a, rfl, hc⟩ := RdI.at_ ha hlt
        obtain ⟨a', rfl, hc'⟩ := RdI.at_ ha' hlt'
        rw [drop_cons hlt, drop_cons hlt'] at HR
        generalize xs[k] = x at *
        generalize ys[k] = y at *
        have e1 : (0 : Int) ≤ (k : Int) := by omega
        have e2 : (k : Int) < (xs.length : Int) := by omega
        have e3 : (k : Int) < (ys.length : Int) := by omega
        go_wp2_with fail
        go_quiet (fail)
        by_cases hxy : x = y
        · subst hxy
          go_wp2
          go_roundw
          case rel => exact ⟨k + 1, _, by omega, by go_num, hd (by rw [HR.out]; simp [eqI]), rfl⟩
          case measure => simp [intOf]; omega
        · go_wp2
          go_ret
          rw [World.drewN_drewN]
          exact RetQ.mkN (by rw [HR.out]; simp [eqI, hxy])
      · go_wp2
        go_ret
        exact RetQ.mkN (by rw [HR.out, List.drop_eq_nil_of_le (by omega), List.drop_eq_nil_of_le (by have := HL.out; omega)]; rfl)
  · have hb : (((xs.length : Nat) : Int) != ((ys.length : Nat) : Int)) = true := by simp; omega
    have HE : Hid (eqI xs ys = false) := hd (by
      rw [Bool.eq_false_iff]; intro he; exact hL (by rw [(eqI_iff _ _).1 he]))
    clear hL
    go_wp2
    go_ret
    exact RetQ.mk (by rw [HE.out]; rfl)

set_option maxHeartbeats 400000 in
theorem l_markIntS (xs : List Int) (v : Value) (k0 : Int) (w : World) (lo : Nat) (h : OwnI w lo 3 v xs) (hl : xs.length ≤ 1073741824) (hk0 : 0 ≤ k0) (hk1 : k0 ≤ 1152921504606846976) :
    Calls Try.prog 48 #[v, .int .i64 k0] w fun e w' => e = .returned (.int .i64 (k0 + xs.length)) ∧ OwnI w' lo 3 v (seqI k0 xs.length) ∧ w.grownBy w' v.ownBlock := by
  rcases own_form h with ⟨rfl, hn, _⟩ | ⟨g, cap, rfl, hb, hg, hnc, hcm⟩
  · have hx : xs = [] := List.eq_nil_of_length_eq_zero hn
    subst hx
    clear h hn
    go_enter Try.func48, Try.ntmps48
    go_wp2
    refine wp_loop_rounds 1 ?_; rw [rounds_succ]; go_wp2
    go_ret
    exact ⟨by simp, own_nil _ _ _ _, grown_refl _ _⟩
  · generalize hn : xs.length = n at *
    have HN := hd hn
    clear hn
    go_enter Try.func48, Try.ntmps48
    go_wp2
    go_loopw [5, 1] (fun i m wr => ∃ k : Nat, k ≤ n ∧ i = .int .i64 k ∧ m = .int .i64 (k0 + k) ∧ Own wr lo 3 1 (.slice (some ⟨g, 0, none⟩) n cap) n ((ints (seqI k0 n)).take k ++ (ints xs).drop k) ∧ w.grownBy wr (some g)) (fun i _ _ => n - (intOf i).toNat)
    case atStart => exact ⟨0, by omega, rfl, by simp, by simpa [OwnI, HN.out] using h, grown_refl _ _⟩
    case round =>
      obtain ⟨k, hk, rfl, rfl, ho, hx⟩ := hrel
      by_cases hlt : k < n
      · obtain ⟨⟨u0, hcell⟩, hfr, hst⟩ := own_store ho hlt
        go_wp2
        go_roundw
        case rel => exact ⟨k + 1, by omega, by go_num, by go_num, by rw [← splice_set (seqI_get hlt) (by simp [HN.out])]; exact hst.out _, grown_set hx _ _⟩
        case measure => simp [intOf]; omega
      · go_wp2
        go_ret
        obtain rfl : k = n := by omega
        rw [List.take_of_length_le (by simp), List.drop_eq_nil_of_le (by simp [HN.out]), List.append_nil] at ho
        exact ⟨rfl, by unfold OwnI; rw [length_seqI]; exact ho, hx⟩

def szIIgo : List (List Int) → Int → Int
  | [], left => left
  | xs :: r, left => if szI xs.length left < 0 then -1 else szIIgo r (szI xs.length left)
def szII (xss : List (List Int)) (left : Int) : Int := if left - (xss.length : Int) < 0 then -1 else szIIgo xss (left - xss.length)
theorem szI_bd (n : Nat) (left : Int) (h : left ≤ 1048576) : -1 ≤ szI n left ∧ szI n left ≤ 1048576 := by unfold szI; split <;> omega
theorem szIIgo_le (xss : List (List Int)) : ∀ left : Int, 0 ≤ szIIgo xss left → ∀ xs ∈ xss, (xs.length : Int) ≤ left := by
  induction xss with
  | nil => intro left _ xs h; cases h
  | cons x r ih =>
    intro left h xs hm
    unfold szIIgo at h
    split at h
    · omega
    · rename_i h1
      have h2 : szI x.length left = left - x.length := by
        unfold szI at h1 ⊢
        by_cases hh : left - (x.length : Int) < 0
        · rw [if_pos hh] at h1; omega
        · rw [if_neg hh]
      rcases List.mem_cons.1 hm with rfl | hm
      · omega
      · have := ih _ h xs hm; omega
theorem szIIgo_bd (xss : List (List Int)) : ∀ left : Int, -1 ≤ left → left ≤ 1048576 → -1 ≤ szIIgo xss left ∧ szIIgo xss left ≤ 1048576 := by
  induction xss with
  | nil => intro left h1 h2; exact ⟨h1, h2⟩
  | cons x r ih =>
    intro left h1 h2
    unfold szIIgo
    split
    · omega
    · have := szI_bd x.length left h2; exact ih _ this.1 this.2
theorem szII_bd (xss : List (List Int)) (left : Int) (h2 : left ≤ 1048576) : -1 ≤ szII xss left ∧ szII xss left ≤ 1048576 := by
  unfold szII
  split
  · omega
  · exact szIIgo_bd _ _ (by omega) (by omega)
theorem szIIgo_sum (xss : List (List Int)) : ∀ left : Int, 0 ≤ szIIgo xss left → (sumN (lens xss) : Int) ≤ left := by
  induction xss with
  | nil => intro left h; simpa [szIIgo, lens, sumN] using h
  | cons x r ih =>
    intro left h
    unfold szIIgo at h
    split at h
    · omega
    · rename_i h1
      have h2 : szI x.length left = left - x.length := by
        unfold szI at h1 ⊢
        by_cases hh : left - (x.length : Int) < 0
        · rw [if_pos hh] at h1; omega
        · rw [if_neg hh]
      have := ih _ h
      simp only [lens, List.map_cons, sumN] at this ⊢
      omega
theorem szII_ok {xss : List (List Int)} {left : Int} (h : ¬ szII xss left < 0) : (xss.length : Int) ≤ left ∧ (∀ xs ∈ xss, (xs.length : Int) ≤ left) ∧ (sumN (lens xss) : Int) ≤ left := by
  unfold szII at h
  split at h
  · omega
  · have h0 : 0 ≤ szIIgo xss (left - xss.length) := by omega
    have h1 := szIIgo_le xss (left - xss.length) h0
    have h2 := szIIgo_sum xss (left - xss.length) h0
    refine ⟨by omega, fun xs hx => ?_, by omega⟩
    have := h1 xs hx; omega
set_option maxHeartbeats 400000 in
theorem l_szIntSS (xss : List (List Int)) (v : Value) (left : Int) (w : World) (h : RdSS w v xss) (hl : 0 ≤ left) (hl' : left ≤ 1048576) :
    Calls Try.prog 22 #[v, .int .i64 left] w (Ret w (.int .i64 (szII xss left))) := by
  obtain ⟨A, c, rfl, h1, h2, ha⟩ := h.form
  clear h
  unfold maxLen at h2
  go_enter Try.func22, Try.ntmps22
  by_cases h0 : left - (xss.length : Int) < 0
  · go_wp2
    go_ret
    exact Ret.mk (by unfold szII; rw [if_pos h0]; rfl)
  · have HF : Hid (szII xss left = szIIgo xss (left - xss.length)) := hd (by unfold szII; rw [if_neg h0])
    go_wp2
    go_loop [5, 1] (fun i m => ∃ (k : Nat) (l : Int), k ≤ xss.length ∧ 0 ≤ l ∧ l ≤ 1048576 ∧ i = .int .i64 k ∧ m = .int .i64 l ∧ Hid (szII xss left = szIIgo (xss.drop k) l)) (fun i _ => xss.length - (intOf i).toNat)
    case atStart => exact ⟨0, _, by omega, by omega, by omega, rfl, rfl, HF⟩
    case round =>
      clear HF
      obtain ⟨k, l, hk, hl0, hl1, rfl, rfl, HR⟩ := hrel
      by_cases hlt : k < xss.length
      · obtain ⟨a, u, rfl, hc, hu⟩ := RdSS.at_ ha hlt
        rw [drop_cons hlt] at HR
        generalize xss[k] = xs at *
        obtain ⟨A', c', rfl, h1', h2', -⟩ := hu.form
        clear hu
        unfold maxLen at h2'
        have hbd := szI_bd xs.length l hl1
        generalize hz : szI xs.length l = z at *
        have HZ := hd hz
        clear hz
        by_cases hz0 : z < 0
        · go_wp2_with (go_at_call 37; refine (l_szIntS _ _ _ _ _ (by omega) (by omega) (by omega)).mono ?_; rintro e w' ⟨rfl, rfl⟩; rw [HZ.out])
          go_ret
          exact Ret.mk (by rw [HR.out]; unfold szIIgo; rw [HZ.out, if_pos hz0]; rfl)
        · go_wp2_with (go_at_call 37; refine (l_szIntS _ _ _ _ _ (by omega) (by omega) (by omega)).mono ?_; rintro e w' ⟨rfl, rfl⟩; rw [HZ.out])
          go_round
          case rel => exact ⟨k + 1, z, by omega, by omega, by omega, by go_num, rfl, hd (by rw [HR.out, szIIgo, HZ.out, if_neg (by omega)])⟩
          case measure => simp [intOf]; omega
      · go_wp2
        go_ret
        exact Ret.mk (by rw [HR.out, List.drop_eq_nil_of_le (by omega)]; rfl)

set_option maxHeartbeats 800000 in
theorem l_toIntSS (xss : List (List Int)) (v : Value) (w : World) (h : RdSS w v xss) (hl : xss.length ≤ 1073741824) (hle : Hid (∀ xs ∈ xss, xs.length ≤ 1073741824)) :
    Calls Try.prog 26 #[v] w (RetSS w 44 3 xss) := by
  obtain ⟨A, c, rfl, h1, h2, ha⟩ := h.form
  obtain ⟨i0, hi, hz0, hz1, hz2⟩ := info_parts info_ints
  clear h
  go_enter Try.func26, Try.ntmps26
  go_wp2_with (at_make; refine wpList_make_full _ rfl _ _ 22 rfl w.heap.size 44 i0 (.slice none 0 0) 1 Try.underlying22 hi hz0 hz1 _ _ _ _ xss.length rfl rfl rfl rfl (by rw [hz2]; omega) (by unfold maxLen; omega) (Nat.le_refl _) ?_; intro w1 hown1 hgrow1)
  have hE : Ext w w1 := (Ext.refl w).grown hgrow1 (Nat.le_refl _) (by simp)
  have hZ : (madeCells (Value.slice none 0 0).cells (xss.length * 1)).toList.length = xss.length := by simp [size_madeCells]
  generalize (madeCells (Value.slice none 0 0).cells (xss.length * 1)).toList = Z at *
  have HZ := hd hZ
  have hS : w.heap.size < w1.heap.size := (own_blocks hown1 _ rfl).2
  clear hgrow1 hZ hi hz0 hz1 hz2
  go_loopw [4] (fun i wr => ∃ (k : Nat) (vs : List Value), k ≤ xss.length ∧ i = .int .i64 k ∧ Own wr w.heap.size 44 1 (.slice (some ⟨w.heap.size, 0, none⟩) xss.length xss.length) xss.length (vs ++ Z.drop k) ∧ Hid (Inner wr (w.heap.size + 1) wr.heap.size 3 vs (xss.take k)) ∧ Ext w wr ∧ w.heap.size < wr.heap.size) (fun i _ => xss.length - (intOf i).toNat)
  case atStart => exact ⟨0, [], by omega, rfl, by simpa using hown1, hd (by simpa using Inner.nil _ _ _ _), hE, hS⟩
  case round =>
    clear hown1 hE hS
    obtain ⟨k, vs, hk, rfl, ho, hin, hx, hS⟩ := hrel
    by_cases hlt : k < xss.length
    · obtain ⟨a, u, rfl, hc0, hu0⟩ := RdSS.at_ ha hlt
      have hc := hx.cell hc0
      have hu := hd (RdI.ext hu0 hx)
      have hxl := hd (hle.out _ (List.getElem_mem hlt))
      have hvl : Hid (vs.length = k) := hd (by have := hin.out.1; simpa [Nat.min_eq_left hk] using this)
      clear hc0 hu0
      go_wp2_with (go_at_call 41; refine (l_toIntS _ _ _ hu.out hxl.out).mono ?_; rintro e w2 ⟨u2, rfl, hu2, hx2⟩; obtain ⟨A2, c2, rfl, hu3⟩ := hu2.form; clear hu2; obtain ⟨⟨u0, hcell⟩, hfr, hst⟩ := own_store (own_ext ho hx2) hlt)
      have hu2 := hu3.out
      have hx2s := hx2.size
      have hn2 := Inner.snoc (hin.out.ext hx2) hu2 (fun g hg => (own_blocks hu2 g hg).2) (by omega) (by omega) hx2s
      go_roundw
      case rel => exact ⟨k + 1, vs ++ [.slice A2 xss[k].length c2], by omega, by go_num, by rw [← splice_snoc hvl.out (by rw [HZ.out]; exact hlt)]; exact hst.out _, hd (by rw [List.take_succ_eq_append_getElem hlt, size_setCell]; exact Inner.touch hn2 ((Touch.refl w.heap.size (w.heap.size + 1) _).setCell (Nat.le_refl _) (Nat.lt_succ_self _) _) (by omega)), (hx.trans hx2).setCell (Nat.le_refl _) _, by rw [size_setCell]; omega⟩
      case measure => simp [intOf]; omega
    · go_wp2
      go_ret
      obtain rfl : k = xss.length := by omega
      rw [List.drop_eq_nil_of_le (by rw [HZ.out]; omega), List.append_nil] at ho
      have h3 := hin.out
      rw [List.take_of_length_le (Nat.le_refl _)] at h3
      exact ⟨_, rfl, ⟨vs, ho, fun g hg => by cases hg; exact hS, h3.1, fun i u xs a b => ⟨own_rebase (h3.2.1 i u xs a b).1 (by omega), (h3.2.1 i u xs a b).2⟩, h3.2.2⟩, hx⟩

set_option maxHeartbeats 400000 in
theorem l_eqIntSS (xss yss : List (List Int)) (v v' : Value) (w : World) (h : RdSS w v xss) (h' : RdSS w v' yss) (hl : xss.length ≤ 1073741824) (_hl : yss.length ≤ 1073741824) (hle : Hid (∀ xs ∈ xss, xs.length ≤ 1073741824)) (hle' : Hid (∀ xs ∈ yss, xs.length ≤ 1073741824)) :
    Calls Try.prog 30 #[v, v'] w (RetQ w (.bool (eqII xss yss))) := by
  obtain ⟨A, c, rfl, h1, h2, ha⟩ := h.form
  obtain ⟨A', c', rfl, h1', h2', ha'⟩ := h'.form
  clear h h'
  go_enter Try.func30, Try.ntmps30
  by_cases hL : xss.length = yss.length
  · have hb : (((xss.length : Nat) : Int) != ((yss.length : Nat) : Int)) = false := by simp [hL]
    have HL := hd hL
    clear hL
    go_wp2
    go_loopw [5] (fun i wr => ∃ k n : Nat, k ≤ xss.length ∧ i = .int .i64 k ∧ Hid (eqII xss yss = eqII (xss.drop k) (yss.drop k)) ∧ wr = w.drewN n) (fun i _ => xss.length - (intOf i).toNat)
    case atStart => exact ⟨0, 0, by omega, rfl, rfl, rfl⟩
    case round =>
      obtain ⟨k, n, hk, rfl, HR, rfl⟩ := hrel
      by_cases hlt : k < xss.length
      · have hlt' : k < yss.length := by rw [← HL.out]; exact hlt
        obtain ⟨a, u, rfl, hc, hu⟩ := RdSS.at_ ha hlt
        obtain ⟨a', u', rfl, hc', hu'⟩ := RdSS.at_ ha' hlt'
        have hxl := hd (hle.out _ (List.getElem_mem hlt))
        have hyl := hd (hle'.out _ (List.getElem_mem hlt'))
        rw [drop_cons hlt, drop_cons hlt'] at HR
        generalize xss[k] = xs at *
        generalize yss[k] = ys at *
        have HU := hd hu
        have HU' := hd hu'
        clear hu hu'
        have e1 : (0 : Int) ≤ (k : Int) := by omega
        have e2 : (k : Int) < (xss.length : Int) := by omega
        have e3 : (k : Int) < (yss.length : Int) := by omega
        obtain ⟨q, hq⟩ : ∃ q, eqI xs ys = q := ⟨_, rfl⟩
        have HQ := hd hq
        clear hq
        cases q
        all_goals
          go_wp2_with fail
          go_quiet ((go_at_call 44; first | exact q_drew (rtq (l_eqIntS xs ys _ _ _ HU.out HU'.out hxl.out hyl.out) HQ) | exact q_drew' (rtq (l_eqIntS xs ys _ _ _ HU.out HU'.out hxl.out hyl.out) HQ)))
          go_wp2
        · go_ret
          rw [World.drewN_drewN]
          exact RetQ.mkN (by rw [HR.out, eqII, HQ.out]; rfl)
        ·
          go_roundw
          case rel => exact ⟨k + 1, _, by omega, by go_num, hd (by rw [HR.out, eqII, if_pos HQ.out]), rfl⟩
          case measure => simp [intOf]; omega
      · go_wp2
        go_ret
        exact RetQ.mkN (by rw [HR.out, List.drop_eq_nil_of_le (by omega), List.drop_eq_nil_of_le (by have := HL.out; omega)]; rfl)
  · have hb : (((xss.length : Nat) : Int) != ((yss.length : Nat) : Int)) = true := by simp; omega
    have HE : Hid (eqII xss yss = false) := hd (by
      rw [Bool.eq_false_iff]; intro he; exact hL (by rw [(eqII_iff _ _).1 he]))
    clear hL
    go_wp2
    go_ret
    exact RetQ.mk (by rw [HE.out]; rfl)

/-- What marks leave in a slice of bools. -/
def seqB (k0 : Int) (n : Nat) : List Bool := (List.range n).map fun j : Nat => (k0 + (j : Int)) % 3 == 0
@[simp] theorem length_seqB (k0 : Int) (n : Nat) : (seqB k0 n).length = n := by simp [seqB]
theorem seqB_get {k0 : Int} {n k : Nat} (h : k < n) : (bools (seqB k0 n))[k]? = some (.bool ((k0 + k) % 3 == 0)) := by simp [bools, seqB, h]
theorem getElem_seqB {k0 : Int} {n k : Nat} (h : k < (seqB k0 n).length) : (seqB k0 n)[k] = ((k0 + k) % 3 == 0) := by simp [seqB]

set_option maxHeartbeats 400000 in
theorem l_markIntSS (xss : List (List Int)) (v : Value) (k0 : Int) (w : World) (lo hi : Nat) (h : OwnSS w lo hi 44 3 v xss) (hl : xss.length ≤ 1073741824) (hle : Hid (∀ xs ∈ xss, xs.length ≤ 1073741824)) (hs : sumN (lens xss) ≤ 1073741824) (hk0 : 0 ≤ k0) (hk1 : k0 ≤ 1000000000000) :
    Calls Try.prog 36 #[v, .int .i64 k0] w fun e w' => e = .returned (.int .i64 (k0 + sumN (lens xss))) ∧ OwnSS w' lo hi 44 3 v (seqII k0 (lens xss)) ∧ Touch lo hi w w' := by
  obtain ⟨A, c, rfl, h1, h2⟩ := h.form
  have hle2 : Hid (∀ k, sumN ((lens xss).take k) ≤ 1073741824) := hd fun k => Nat.le_trans (sumN_take_le _ _) hs
  have HS := hd h
  clear h
  go_enter Try.func36, Try.ntmps36
  go_wp2
  go_loopw [5, 1] (fun i m wr => ∃ k : Nat, k ≤ xss.length ∧ i = .int .i64 k ∧ m = .int .i64 (k0 + sumN ((lens xss).take k)) ∧ Hid (OwnSS wr lo hi 44 3 (.slice A xss.length c) (seqII k0 ((lens xss).take k) ++ xss.drop k)) ∧ Hid (Touch lo hi w wr)) (fun i _ _ => xss.length - (intOf i).toNat)
  case atStart => exact ⟨0, by omega, rfl, by simp [sumN], by simpa [seqII] using HS, hd (Touch.refl _ _ _)⟩
  case round =>
    clear HS
    obtain ⟨k, hk, rfl, rfl, ho, hx⟩ := hrel
    have hsk := hle2.out k
    by_cases hlt : k < xss.length
    · have hL : (seqII k0 ((lens xss).take k)).length = k := by simp [Nat.min_eq_left hk]
      have hgl : (seqII k0 ((lens xss).take k) ++ xss.drop k).length = xss.length := by simp [Nat.min_eq_left hk]; omega
      have hge : (seqII k0 ((lens xss).take k) ++ xss.drop k)[k]'(by rw [hgl]; exact hlt) = xss[k] := by
        rw [List.getElem_append_right (by omega)]; simp [Nat.min_eq_left hk]
      obtain ⟨u, hvs, hu, hub, hcell⟩ := ho.out.inner (k := k) (by rw [hgl]; exact hlt)
      rw [hge] at hu
      obtain ⟨a, rfl, hc⟩ := hcell _ _ _ rfl
      have HL := hd hL
      have HGL := hd hgl
      have HU := hd hu
      have HUB := hd hub
      have hxl := hd (hle.out _ (List.getElem_mem hlt))
      clear hL hgl hge hcell hu hub
      go_wp2_with (go_at_call 48; refine (l_markIntS _ _ _ _ _ HU.out hxl.out (by omega) (by omega)).mono ?_; rintro e w2 ⟨rfl, hu2, hg2⟩)
      have hn := ho.out.upd (by decide) hvs.out (by rw [HGL.out]; exact hlt) hg2 hu2
      have hs2 : (seqII k0 ((lens xss).take k) ++ xss.drop k).set k (seqI (k0 + sumN ((lens xss).take k)) xss[k].length) = seqII k0 ((lens xss).take (k + 1)) ++ xss.drop (k + 1) := by
        rw [splice_snoc HL.out hlt, List.take_succ_eq_append_getElem (by simpa using hlt), seqII_snoc, lens_get]
      have hsum : sumN ((lens xss).take (k + 1)) = sumN ((lens xss).take k) + xss[k].length := by
        rw [List.take_succ_eq_append_getElem (by simpa using hlt), sumN_append, lens_get]; simp [sumN]
      rw [hs2] at hn
      go_roundw
      case rel => exact ⟨k + 1, by omega, by go_num, by rw [hsum]; go_num, hd hn, hd (hx.out.trans (touch_of_grown hg2 fun g hg => ⟨(own_blocks HU.out g hg).1, HUB.out g hg⟩))⟩
      case measure => simp [intOf]; omega
    · go_wp2
      go_ret
      obtain rfl : k = xss.length := by omega
      have ho2 := ho.out
      rw [List.take_of_length_le (by simp), List.drop_eq_nil_of_le (Nat.le_refl _), List.append_nil] at ho2
      exact ⟨by rw [List.take_of_length_le (by simp)]; rfl, ho2, hx.out⟩
end Go.Proofs.Ytapgpjhogdmjbaa
