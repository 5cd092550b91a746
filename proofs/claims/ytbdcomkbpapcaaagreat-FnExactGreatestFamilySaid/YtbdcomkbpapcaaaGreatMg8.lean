import Derived.Test.YtbdcomkbpapcaaaGreatGfS
import Derived.Test.YtbdcomkbpapcaaaGreatMg7
import Derived.Test.YtbdcomkbpapcaaaGreatGfX
/-
  Greatest families: what is asked, in plain words. No condition.
-/
/-
  Greatest families: what is asked, HasFamily and GreatestFamily of the reference. Condition: sizes up to 2^20.
-/

namespace Go.Proofs.YtbdcomkbpapcaaaGreat
open Go.RowKit Seed
theorem allL_risA {cs : List (List Int)} {n q : Nat} {b : List Int} (h : b ∈ allL cs n q) : Ris (n : Int) b := allA_ris ((mem_insA _ _).1 h)
theorem allL_lenA {cs : List (List Int)} {n q : Nat} (h : n ≤ 6) : (allL cs n q).length ≤ 729 := by
  have h1 := insA_len (allA cs n q) _ (Nat.le_refl _)
  rw [List.take_length] at h1
  have := allA_len (cs := cs) (w := q) h
  unfold allL
  omega
def famF (f : Cnf) (x : Int) : List (List Int) := if askF f x then famL f.cs f.n.toNat x.toNat else []
/-- What a valid question tells. -/
theorem askF_inv {f : Cnf} {x : Int} (h : askF f x = true) : ∃ (n q : Nat) (cs : List (List Int)), f = ⟨(n : Int), cs⟩ ∧ x = (q : Int) ∧ n ≤ 6 ∧ q ≤ 6 ∧ cs.length ≤ 60 ∧ (∀ c ∈ cs, c.length ≤ 1000000 ∧ ∀ l ∈ c, -12 ≤ l ∧ l ≤ 12) ∧ famF f x = famL cs n q := by
  have h0 := h
  unfold askF smlB at h
  rw [Bool.and_eq_true, Bool.and_eq_true, decide_eq_true_iff, inB_iff] at h
  obtain ⟨⟨h1, h2⟩, h3, h4⟩ := h
  obtain ⟨g1, g2, g3, g4⟩ := good_inv h2
  obtain ⟨m, cs⟩ := f
  simp only at *
  refine ⟨m.toNat, x.toNat, cs, by rw [Int.toNat_of_nonneg g1], by omega, by omega, by omega, g3, fun c hc => ?_, by unfold famF; rw [h0]; rfl⟩
  obtain ⟨k1, k2, k3, k4⟩ := clause_inv (g4 c hc)
  exact ⟨by omega, fun l hl => by have := k3 l hl; omega⟩
theorem famF_no {f : Cnf} {x : Int} (h : askF f x = false) : famF f x = [] := by unfold famF; rw [h]; rfl
theorem shrL_sub {n q : Nat} : ∀ (N : Nat) (L : List (List Int)), L.length ≤ N → (shrL n q L).Sublist L
  | N, L, hN => by
    cases h : L.all (keepB n q L)
    · have hl := shr_less (n := n) (w := q) (L := L) (by rw [h]; decide)
      rw [shrL_no h]
      cases N with
      | zero => omega
      | succ N => exact (shrL_sub N _ (by omega)).trans List.filter_sublist
    · rw [shrL_yes h]
      exact List.Sublist.refl _
theorem famL_sub (cs : List (List Int)) (n q : Nat) : (famL cs n q).Sublist (allL cs n q) := shrL_sub _ _ (Nat.le_refl _)
theorem famL_len {cs : List (List Int)} {n q : Nat} (h : n ≤ 6) : (famL cs n q).length ≤ 729 := Nat.le_trans (famL_sub cs n q).length_le (allL_lenA h)
theorem famL_row {cs : List (List Int)} {n q : Nat} (h : n ≤ 6) : ∀ b ∈ famL cs n q, b.length ≤ 6 := fun b hb => by
  have := (allL_risA ((famL_sub cs n q).subset hb)).len
  omega
theorem shrL_Sub {n q : Nat} {A : List (List Int)} : ∀ (N : Nat) (L : List (List Int)), L.length ≤ N → Sub A L → Sub A (shrL n q L)
  | N, L, hN, hs => by
    cases h : L.all (keepB n q L)
    · have hl := shr_less (n := n) (w := q) (L := L) (by rw [h]; decide)
      rw [shrL_no h]
      cases N with
      | zero => omega
      | succ N => exact shrL_Sub N _ (by omega) hs.cut
    · rw [shrL_yes h]
      exact hs
theorem famL_Sub (cs : List (List Int)) (n q : Nat) : Sub (allL cs n q) (famL cs n q) := shrL_Sub _ _ (Nat.le_refl _) (sub_refl _)
theorem famL_tells {cs : List (List Int)} {n q : Nat} {p : Nat → Bool} (h : Tells n p (famL cs n q)) : (allL cs n q).filter (fun b => p (codeA b)) = famL cs n q := by
  conv => rhs; rw [← famL_Sub cs n q]
  exact List.filter_congr fun b hb => h b (allL_risA hb)
def RetSS2 (w : World) (xss : List (List Int)) (b : Bool) : Ending → World → Prop := fun e w' => ∃ u, e = .returned (.tuple #[u, .bool b]) ∧ Own_IntSS w' w.heap.size w'.heap.size u xss ∧ Ext w w'
theorem sumN_lens {xss : List (List Int)} (h : ∀ x ∈ xss, x.length ≤ 6) : sumN (lens xss) ≤ 6 * xss.length := by
  induction xss with
  | nil => simp [lens, sumN]
  | cons x r ih =>
    have h1 := h x (by simp)
    have h2 := ih fun y hy => h y (by simp [hy])
    simp only [lens, sumN, List.length_cons, List.map_cons, List.sum_cons] at *
    omega
theorem famF_bd (f : Cnf) (x : Int) : Bd_IntSS (famF f x) := by
  cases h : askF f x
  · rw [famF_no h]
    exact ⟨by simp, fun y hy => (by cases hy), by simp [lens, sumN]⟩
  · obtain ⟨n, q, cs, rfl, rfl, hn, hq, hl, hc, hF⟩ := askF_inv h
    rw [hF]
    have h1 := famL_len (cs := cs) (q := q) hn
    have h2 := famL_row (cs := cs) (q := q) hn
    have h3 := sumN_lens h2
    exact ⟨by omega, fun y hy => by have := h2 y hy; omega, by omega⟩
end Go.Proofs.YtbdcomkbpapcaaaGreat
namespace Go.Proofs.YtbdcomkbpapcaaaGreat
open Go.RowKit Seed
theorem ownSS_lo {w : World} {lo lo' hi : Nat} {v : Value} {xss : List (List Int)} (h : OwnSS w lo hi 37 3 v xss) (hl : lo' ≤ lo) : OwnSS w lo' hi 37 3 v xss := by
  obtain ⟨zs, rfl, ho, hz⟩ := h.rows
  obtain ⟨vs, h1, h2, _⟩ := h
  exact (hz.lo_le hl).ss (own_rebase ho hl) h2
set_option maxHeartbeats 800000 in
theorem s_l10Copy (xss : List (List Int)) (v : Value) (w : World) (h : RdSS w v xss) (hl : xss.length ≤ 1048576) (hr : ∀ xs ∈ xss, xs.length ≤ 1048576) :
    Calls Tryz.prog 15 #[v] w (RetSS w 37 3 xss) := by
  obtain ⟨A, c, rfl, h1, h2, ha⟩ := h.form
  have HL : Hid (∀ k (hk : k < xss.length), xss[k].length ≤ 1073741824) := hd fun k hk => by have := hr _ (List.getElem_mem hk); omega
  have HE : Hid (OwnSS (w.alloc (.cells #[] 37)) w.heap.size (w.alloc (.cells #[] 37)).heap.size 37 3 (.slice (some ⟨w.heap.size, 0, none⟩) 0 0) []) := hd ⟨[], own_lit w w.heap.size 37 1 #[] 0 (Nat.le_refl _) (Nat.zero_le _) rfl, (fun g hg => by cases hg; simp), rfl, (fun i u xs h => by simp at h), (fun i j u u' g _ h => by simp at h)⟩
  clear h hr
  go_enter Tryz.func15, Tryz.ntmps15
  go_wp2
  go_loopw [4, 3] (fun i v wr => ∃ k : Nat, k ≤ xss.length ∧ i = .int .i64 k ∧ OwnSS wr w.heap.size wr.heap.size 37 3 v (xss.take k) ∧ Ext w wr) (fun i _ _ => xss.length - (intOf i).toNat)
  case atStart => exact ⟨0, by omega, rfl, HE.out, Ext.new _ _⟩
  case round =>
    clear HE
    obtain ⟨k, hk, rfl, ho, hx⟩ := hrel
    have HX := hd hx
    have HO := hd ho
    have hls := hx.size
    clear ho hx
    by_cases hlt : k < xss.length
    · obtain ⟨a, u, rfl, hc0, hrow⟩ := RdSS.at_ ha hlt
      have hc := HX.out.cell hc0
      have hkl := HL.out k hlt
      have HT : Hid (xss.take (k + 1) = xss.take k ++ [xss[k]]) := hd (by rw [List.take_add_one, List.getElem?_eq_getElem hlt]; rfl)
      have hlen : (xss.take k).length = k := by rw [List.length_take]; omega
      have HRW := hd (hrow.ext HX.out)
      clear hc0 hrow
      generalize xss[k] = y at *
      obtain ⟨A3, c3, rfl, -⟩ := HRW.out.form
      go_wp2_with fail
      refine (s_l1Own y _ wr HRW.out hkl).mono ?_
      rintro e w1 ⟨u1, rfl, hu1, hx1⟩
      have HU := hd hu1
      have X1 := hd hx1
      clear hu1 hx1
      obtain ⟨A4, c4, rfl, HU4⟩ := HU.out.form
      go_wp2_with (at_builtin; refine appL w1 (HO.out.ext X1.out) HU4.out hls X1.out.size rfl _ _ rfl (by rfl) (by rfl) (by rw [hlen]; omega) ?_; intro v' w2 ho2 hg2)
      go_roundw
      case rel => exact ⟨k + 1, by omega, by go_num, by rw [HT.out]; exact ho2, ext_app (HX.out.trans X1.out) hg2 (fun g hg => by obtain ⟨vs, a1, _, _⟩ := HO.out; exact (own_blocks a1 g hg).1)⟩
      case measure => simp [intOf]; omega
    · obtain rfl : k = xss.length := by omega
      have HO2 : Hid (OwnSS wr w.heap.size wr.heap.size 37 3 _ xss) := hd (by have := HO.out; rw [List.take_length] at this; exact this)
      clear HO
      go_wp2
      go_ret
      exact ⟨_, rfl, HO2.out, HX.out⟩
set_option maxRecDepth 100000 in
set_option maxHeartbeats 1600000 in
theorem s_GreatestFamily (f : Cnf) (v : Value) (x : Int) (w : World) (h : Rd_Cnf w v f) (b : Bd_Cnf f) (_ : I64_Cnf f) (_ : I64 x) :
    Calls Tryz.prog 5 #[v, .int .i64 x] w (RetSS2 w (famF f x) (askF f x)) := by
  have HV := hd h
  have HB := hd b
  obtain ⟨A, c, rfl⟩ := h.form
  clear h b
  obtain ⟨p, hp⟩ : ∃ p, askF f x = p := ⟨_, rfl⟩
  have HAC := hd (rtx (s_l13Asked f x _ _ (HV.out.ext (Ext.new w (.cells #[.int .i64 f.n, .slice A f.cs.length c] 28))) HB.out) (hd hp))
  cases p
  · rw [famF_no hp, hp]
    clear hp
    go_enter Tryz.func5, Tryz.ntmps5
    go_wp2_with fail
    refine HAC.out.mono ?_
    rintro e w1 ⟨rfl, hx1⟩
    have X1 := hd ((Ext.new _ _).trans hx1)
    have HE : Hid (Own_IntSS (w1.alloc (.cells #[] 37)) w.heap.size (w1.alloc (.cells #[] 37)).heap.size (.slice (some ⟨w1.heap.size, 0, none⟩) 0 0) []) := hd ⟨[], own_lit w1 w.heap.size 37 1 #[] 0 X1.out.size (Nat.zero_le _) rfl, (fun g hg => by cases hg; simp), rfl, (fun i u xs h => by simp at h), (fun i j u u' g _ h => by simp at h)⟩
    clear hx1
    go_wp2
    go_ret2
    exact ⟨_, rfl, HE.out, X1.out.alloc _⟩
  · obtain ⟨n, q, cs, rfl, rfl, hn, hq, hl, hc, hF⟩ := askF_inv hp
    rw [hF, hp]
    have HSC := hd (fun w' hx => s_l13Shrink n cs q _ w' hn hl (hd hc) hq (HV.out.ext hx) : ∀ w', Ext w w' → _)
    have hfl := famL_len (cs := cs) (q := q) hn
    have HFR := hd (famL_row (cs := cs) (q := q) hn)
    simp only at *
    clear hp hc hF
    generalize famL cs n q = L at *
    go_enter Tryz.func5, Tryz.ntmps5
    go_wp2_with fail
    refine HAC.out.mono ?_
    rintro e w1 ⟨rfl, hx1⟩
    have X1 := hd ((Ext.new _ _).trans hx1)
    obtain ⟨k0, k1⟩ := blk2 (hx1.heap (heap_n1 w _))
    clear hx1
    go_wp2_with fail
    refine (HSC.out _ X1.out).mono ?_
    rintro e w2 ⟨Aa, na, ca, Ar, nr, cr, Ac, nc, cc, Al, nl, cl, rfl, hr, hx2⟩
    have X2 := hd (X1.out.trans hx2)
    have hfd : ∀ w : World, (Instr.field 39 (.agg #[.slice Aa na ca, .slice Ar nr cr, .slice Ac nc cc, .slice Al nl cl]) 3).run Tryz.prog w = .ok (.slice Al nl cl) w := fun _ => by kernel_rfl
    have HCP := hd (s_l10Copy L (.slice Al nl cl) w2 hr (by omega) (fun y hy => by have := HFR.out y hy; omega))
    clear hr hx2
    go_wp2_with fail
    refine HCP.out.mono ?_
    rintro e w3 ⟨v3, rfl, hss, hx3⟩
    have HO3 := hd (ownSS_lo hss X2.out.size)
    have X3 := hd (X2.out.trans hx3)
    clear hss hx3
    go_wp2
    go_ret2
    exact ⟨_, rfl, HO3.out, X3.out⟩
end Go.Proofs.YtbdcomkbpapcaaaGreat
