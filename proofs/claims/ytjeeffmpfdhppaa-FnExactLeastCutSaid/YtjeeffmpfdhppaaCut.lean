/-
  Cuts of charged graphs: both sides. Condition: sizes up to 2^20.
-/
import Derived.Test.YtjeeffmpfdhppaaEdgesAt
import Derived.Test.YtjeeffmpfdhppaaSel
import Derived.IntWalk
namespace Go.Proofs.Ytjeeffmpfdhppaa
open Go.RowKit
/-- The edge of index k has just one vertex in xs. -/
def crB (es : List (Int × Int)) (xs : List Int) (k : Nat) : Bool := match es[k]? with
  | some e => hasI xs e.1 != hasI xs e.2
  | none => false
theorem crB_of {es : List (Int × Int)} {xs : List Int} {k : Nat} (h : k < es.length) : crB es xs k = (hasI xs es[k].1 != hasI xs es[k].2) := by unfold crB; rw [List.getElem?_eq_getElem h]
def cutL (g : Chg) (xs : List Int) : List Int := selN (crB g.es xs) g.es.length
set_option maxRecDepth 100000 in
set_option maxHeartbeats 1600000 in
theorem s_l27Cut (g : Chg) (gv : Value) (xs : List Int) (v : Value) (w : World) (h : RdC w gv g) (hl : g.es.length ≤ 1048576) (hv : RdI w v xs) (hlx : xs.length ≤ 1048576) :
    Calls Try.prog 72 #[gv, v] w (RetI w 3 (cutL g xs)) := by
  obtain ⟨ve, vc, rfl, hE, -⟩ := h
  obtain ⟨A, c, rfl, h1, h2, ha⟩ := hE.form
  have HV := hd hv
  clear hE hv
  unfold cutL
  generalize g.es = es at *
  go_enter Try.func72, Try.ntmps72
  go_wp2
  go_loopw [6, 5] (fun i v' wr => ∃ k : Nat, k ≤ es.length ∧ i = .int .i64 k ∧ OwnI wr (w.heap.size + 1) 3 v' (selN (crB es xs) k) ∧ Ext (w.alloc (.cells #[.int .i64 g.n, .slice A es.length c, vc] 51)) wr) (fun i _ _ => es.length - (intOf i).toNat)
  case atStart => exact ⟨0, by omega, rfl, ownI_emp (by simp) (by omega), Ext.new _ _⟩
  case round =>
    obtain ⟨k, hk, rfl, ho, hx⟩ := hrel
    have hb := hx.cell (p := ⟨w.heap.size, 1, none⟩) (u := .slice A es.length c) (by simp [go_sem])
    have HB := hd hx
    have HX := hd hx.box
    have HO := hd ho
    have hxs : w.heap.size + 1 ≤ wr.heap.size := by have := HB.out.size; simpa using this
    have hal := selN_len (crB es xs) k
    clear ho hx
    by_cases hlt : k < es.length
    · obtain ⟨a, rfl, hc0, hc1⟩ := RdP.at_ ha hlt
      have c0 := HX.out.cell hc0
      have c1 := HX.out.cell hc1
      have HT := hd (crB_of (xs := xs) hlt)
      have HR := hd (HV.out.ext HX.out)
      clear hc0 hc1
      generalize es[k] = e at *
      obtain ⟨x, y⟩ := e
      dsimp only at HT
      obtain ⟨b1, hb1⟩ : ∃ b, hasI xs x = b := ⟨_, rfl⟩
      obtain ⟨b2, hb2⟩ : ∃ b, hasI xs y = b := ⟨_, rfl⟩
      rw [hb1, hb2] at HT
      have H1 := hd hb1
      have H2 := hd hb2
      clear hb1 hb2
      have e1 : (0 : Int) ≤ (k : Int) := by omega
      have e2 : (k : Int) < (es.length : Int) := by omega
      cases b1 <;> cases b2
      all_goals
        go_wp2_with fail
        go_quiet ((go_at_call 114; first | exact q_same (rt (s_l1Has xs _ _ _ HR.out (by omega)) H1) | exact q_same' (rt (s_l1Has xs _ _ _ HR.out (by omega)) H1) | exact q_same (rt (s_l1Has xs _ _ _ HR.out (by omega)) H2) | exact q_same' (rt (s_l1Has xs _ _ _ HR.out (by omega)) H2)))
      all_goals first
        | (have HN := hd (selN_no HT.out)
           go_wp2
           go_roundw
           case rel => exact ⟨k + 1, by omega, by go_num, by rw [HN.out]; exact HO.out.ext (ext_drewN _ _), HB.out.drewN _⟩
           case measure => simp [intOf]; omega)
        | (have HY := hd (selN_yes HT.out)
           have HO2 := hd (HO.out.ext (ext_drewN wr nq))
           go_wp2_with (at_builtin; refine appI _ HO2.out rfl _ _ rfl _ (by rfl) (by rfl) (by omega) hxs ?_; intro v' w1 ho1 hg1 _)
           go_roundw
           case rel => exact ⟨k + 1, by omega, by go_num, by rw [HY.out]; exact ho1, ext_appB (HB.out.drewN _) hg1 HO2.out⟩
           case measure => simp [intOf]; omega)
    · go_wp2
      go_ret
      obtain rfl : k = es.length := by omega
      exact ⟨_, rfl, own_rebase HO.out (by omega), HX.out⟩
set_option maxRecDepth 100000 in
set_option maxHeartbeats 1600000 in
theorem i_crossing (g : Chg) (gv : Value) (xs : List Int) (v : Value) (w : World) (h : RdC w gv g) (hl : g.es.length ≤ 1048576) (hv : RdI w v xs) (hlx : xs.length ≤ 1048576) :
    Calls Try.prog 78 #[gv, v] w (RetI w 3 (cutL g xs)) := by
  obtain ⟨ve, vc, rfl, hE, -⟩ := h
  obtain ⟨A, c, rfl, h1, h2, ha⟩ := hE.form
  have HV := hd hv
  clear hE hv
  unfold cutL
  generalize g.es = es at *
  go_enter Try.func78, Try.ntmps78
  go_wp2
  go_loopw [11, 6, 7, 5] (fun i _ _ v' wr => ∃ k : Nat, k ≤ es.length ∧ i = .int .i64 k ∧ OwnI wr (w.heap.size + 1) 3 v' (selN (crB es xs) k) ∧ Ext (w.alloc (.cells #[.int .i64 g.n, .slice A es.length c, vc] 51)) wr) (fun i _ _ _ _ => es.length - (intOf i).toNat)
  case atStart => exact ⟨0, by omega, rfl, ownI_nil _ _ _, Ext.refl _⟩
  case round =>
    obtain ⟨k, hk, rfl, ho, hx⟩ := hrel
    have HX := hd hx.box
    have hxs : w.heap.size + 1 ≤ wr.heap.size := by have := hx.size; simpa using this
    have hal := selN_len (crB es xs) k
    by_cases hlt : k < es.length
    · obtain ⟨a, rfl, hc0, hc1⟩ := RdP.at_ ha hlt
      have c0 := HX.out.cell hc0
      have c1 := HX.out.cell hc1
      have HT := hd (crB_of (xs := xs) hlt)
      clear hc0 hc1
      generalize es[k] = e at *
      obtain ⟨x, y⟩ := e
      have HB := hd (hx.alloc (.cells #[.int .i64 x, .int .i64 y] 103))
      have HO := hd (OwnI.ext ho (Ext.new wr (.cells #[.int .i64 x, .int .i64 y] 103)))
      have HR := hd (HV.out.ext HB.out.box)
      clear ho hx
      dsimp only at HT
      obtain ⟨b1, hb1⟩ : ∃ b, hasI xs x = b := ⟨_, rfl⟩
      obtain ⟨b2, hb2⟩ : ∃ b, hasI xs y = b := ⟨_, rfl⟩
      rw [hb1, hb2] at HT
      have H1 := hd hb1
      have H2 := hd hb2
      clear hb1 hb2
      cases b1 <;> cases b2
      all_goals
        go_wp2_with fail
        go_quiet ((go_at_call 108; first | exact q_same (rt (slices_Contains xs _ _ _ HR.out (by omega)) H1) | exact q_same' (rt (slices_Contains xs _ _ _ HR.out (by omega)) H1) | exact q_same (rt (slices_Contains xs _ _ _ HR.out (by omega)) H2) | exact q_same' (rt (slices_Contains xs _ _ _ HR.out (by omega)) H2)))
      all_goals first
        | (have HN := hd (selN_no HT.out)
           go_wp2
           go_roundw
           case rel => exact ⟨k + 1, by omega, by go_num, by rw [HN.out]; exact HO.out.ext (ext_drewN _ _), HB.out.drewN _⟩
           case measure => simp [intOf]; omega)
        | (have HY := hd (selN_yes HT.out)
           have HO2 := hd (HO.out.ext (ext_drewN (wr.alloc (.cells #[.int .i64 x, .int .i64 y] 103)) nq))
           go_wp2_with (at_builtin; refine appIn _ HO2.out rfl _ _ rfl _ (by rfl) (by rfl) (by simp) (by omega) (by simp; omega) ?_; intro v' w1 ho1 hg1 _)
           go_roundw
           case rel => exact ⟨k + 1, by omega, by go_num, by rw [HY.out]; exact ho1, ext_appB (HB.out.drewN _) hg1 HO2.out⟩
           case measure => simp [intOf]; omega)
    · go_wp2
      go_ret
      obtain rfl : k = es.length := by omega
      exact ⟨_, rfl, own_rebase ho (by omega), HX.out⟩
def someB (g : Chg) (xs : List Int) : Bool := goodC g && risingB 0 (g.n - 1) xs
def cutSizeN (g : Chg) (xs : List Int) : Int := if someB g xs then ((cutL g xs).length : Int) else 0
theorem rising_mem {lo hi : Int} : ∀ (xs : List Int) (o : Option Int), risingG lo hi o xs = true → ∀ x ∈ xs, lo ≤ x ∧ x ≤ hi
  | [], _, _, x, hx => by simp at hx
  | y :: r, o, h, x, hx => by
    have key : inB y lo hi = true ∧ risingG lo hi (some y) r = true := by
      cases o with
      | none =>
        unfold risingG at h
        split at h
        · rename_i h1; exact ⟨h1, h⟩
        · cases h
      | some p =>
        unfold risingG at h
        split at h
        · rename_i h1
          split at h
          · exact ⟨h1, h⟩
          · cases h
        · cases h
    rcases List.mem_cons.1 hx with rfl | hx
    · exact inB_iff.1 key.1
    · exact rising_mem r _ key.2 x hx
theorem risingC_len1 (lo hi : Int) (xs : List Int) : ∀ p : Int, risingG lo hi (some p) xs = true → lo - 1 ≤ p → (xs.length : Int) ≤ hi - p ∨ xs = [] := by
  induction xs with
  | nil => intro p _ _; exact .inr rfl
  | cons x r ih =>
    intro p h hp
    unfold risingG at h
    split at h
    · rename_i hb
      rw [inB_iff] at hb
      split at h
      · rename_i hpx
        rcases ih x h (by omega) with h2 | rfl
        · simp; omega
        · simp; omega
      · cases h
    · cases h
theorem rising_bd {lo hi : Int} {xs : List Int} (h : risingB lo hi xs = true) : (xs.length : Int) ≤ hi - lo + 1 ∨ xs = [] := by
  cases xs with
  | nil => exact .inr rfl
  | cons x r =>
    left
    unfold risingB risingG at h
    split at h
    · rename_i hb
      rw [inB_iff] at hb
      rcases risingC_len1 lo hi r x h (by omega) with h2 | rfl
      · simp; omega
      · simp; omega
    · cases h
theorem someB_idx {g : Chg} {xs : List Int} (h : someB g xs = true) : Idx g.cs.length xs ∧ xs.length ≤ 8 ∧ (∀ c ∈ g.cs, 0 ≤ c ∧ c ≤ 1) ∧ g.es.length ≤ 12 := by
  unfold someB at h
  rw [Bool.and_eq_true] at h
  obtain ⟨h1, h2, h3, h4, h5, h6, h7⟩ := goodC_inv h.1
  refine ⟨fun x hx => ?_, ?_, h6, h3⟩
  · have := rising_mem xs none h.2 x hx
    obtain ⟨j, rfl⟩ := Int.eq_ofNat_of_zero_le this.1
    exact ⟨j, rfl, by omega⟩
  · rcases rising_bd h.2 with h' | rfl
    · omega
    · simp
/-- The charges of the vertices, added to s. -/
def sumAt (cs : List Int) : List Int → Int → Int
  | [], s => s
  | x :: r, s => sumAt cs r (s + cs[x.toNat]?.getD 0)
end Go.Proofs.Ytjeeffmpfdhppaa
