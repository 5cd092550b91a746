/-
  The program's split of a formula into left and right clauses. Conditions: sizes up to 2^20.
-/
import Derived.Test.YtjeeffmpfdhppaaSide2
import Derived.Test.YtjeeffmpfdhppaaSort
namespace Go.Proofs.Ytjeeffmpfdhppaa
open Go.RowKit
theorem inS_iff (cs : List (List Int)) (v : Int) : inS cs v = true ↔ ∃ c ∈ cs, v ∈ c ∨ -v ∈ c := by
  unfold inS
  have h1 := occB_iff cs v
  have h2 := occB_iff cs (-v)
  cases h : occB cs v
  · rw [if_neg (by simp), h2]
    constructor
    · rintro ⟨c, a, b⟩; exact ⟨c, a, .inr b⟩
    · rintro ⟨c, a, b⟩
      rcases b with b | b
      · rw [h] at h1; exact absurd (h1.2 ⟨c, a, b⟩) (by simp)
      · exact ⟨c, a, b⟩
  · rw [h] at h1
    obtain ⟨c, a, b⟩ := h1.1 rfl
    exact ⟨fun _ => ⟨c, a, .inl b⟩, fun _ => rfl⟩
theorem flat_len : ∀ (cs : List (List Int)), (∀ c ∈ cs, c.length ≤ 12) → cs.flatten.length ≤ 12 * cs.length
  | [], _ => by simp
  | c :: r, h => by
    have h1 := h c (by simp)
    have h2 := flat_len r fun x hx => h x (by simp [hx])
    rw [List.flatten_cons, List.length_append, List.length_cons]; omega
theorem good_len {f : Cnf} (h : goodB f = true) : ∀ c ∈ f.cs, c.length ≤ 12 := fun c hc => by
  obtain ⟨_, b, _, d⟩ := clause_inv ((good_inv h).2.2.2 c hc)
  omega
theorem good_take {f : Cnf} (h : goodB f = true) (k : Nat) : (f.cs.take k).flatten.length ≤ 1048576 := by
  have := flat_len (f.cs.take k) fun c hc => good_len h c (List.mem_of_mem_take hc)
  have h2 := (good_inv h).2.2.1
  rw [List.length_take] at this; omega
theorem good_drop {f : Cnf} (h : goodB f = true) (k : Nat) : (f.cs.drop k).flatten.length ≤ 1048576 := by
  have := flat_len (f.cs.drop k) fun c hc => good_len h c (List.mem_of_mem_drop hc)
  have h2 := (good_inv h).2.2.1
  rw [List.length_drop] at this; omega
/-- The variables of good clauses, ascending. -/
theorem vars_eq {f : Cnf} (h : goodB f = true) {L : List (List Int)} (hL : ∀ c ∈ L, c ∈ f.cs) : sortU (L.flatten.map absW) = (seqI 1 f.n.toNat).filter (inS L) := by
  obtain ⟨hn0, hn12, _, hc⟩ := good_inv h
  refine sor_ext (sortU_spec _).1 (sor_filter (sor_seqI _ _)) fun z => ?_
  rw [(sortU_spec _).2, List.mem_filter, mem_seqI, inS_iff]
  constructor
  · intro hz
    obtain ⟨l, hl, rfl⟩ := List.mem_map.1 hz
    obtain ⟨c, hcL, hlc⟩ := List.mem_flatten.1 hl
    have hb := (clause_inv (hc c (hL c hcL))).2.2.1 l hlc
    rw [absW_eq (by omega)]
    refine ⟨?_, c, hcL, ?_⟩
    · unfold absI; split <;> omega
    · unfold absI
      split
      · exact .inr (by rw [Int.neg_neg]; exact hlc)
      · exact .inl hlc
  · rintro ⟨hz, c, hcL, hlc⟩
    rcases hlc with hlc | hlc
    · refine List.mem_map.2 ⟨z, List.mem_flatten.2 ⟨c, hcL, hlc⟩, ?_⟩
      rw [absW_eq (by omega), absI, if_neg (by omega)]
    · refine List.mem_map.2 ⟨-z, List.mem_flatten.2 ⟨c, hcL, hlc⟩, ?_⟩
      rw [absW_eq (by omega), absI, if_pos (by omega), Int.neg_neg]
theorem mem_t {f : Cnf} {k : Nat} : ∀ c ∈ f.cs.take k, c ∈ f.cs := fun _ h => List.mem_of_mem_take h
theorem mem_d {f : Cnf} {k : Nat} : ∀ c ∈ f.cs.drop k, c ∈ f.cs := fun _ h => List.mem_of_mem_drop h
theorem has_filt {p : Int → Bool} {n : Nat} {x : Int} (h : x ∈ seqI 1 n) : hasI ((seqI 1 n).filter p) x = p x := by
  rw [Bool.eq_iff_iff, hasI_iff, List.mem_filter]
  simp [h]
theorem both_eq (f : Cnf) (k : Nat) : ((seqI 1 f.n.toNat).filter (inS (f.cs.take k))).filter (fun x => !!hasI ((seqI 1 f.n.toNat).filter (inS (f.cs.drop k))) x) = bothV f k f.n.toNat := by
  unfold bothV
  rw [List.filter_filter]
  refine List.filter_congr fun x hx => ?_
  rw [has_filt hx, Bool.not_not, Bool.and_comm]
theorem left_eq' (f : Cnf) (k : Nat) : ((seqI 1 f.n.toNat).filter (inS (f.cs.take k))).filter (fun x => !hasI (bothV f k f.n.toNat) x) = leftV f k f.n.toNat := by
  unfold leftV bothV
  rw [List.filter_filter]
  refine List.filter_congr fun x hx => ?_
  rw [has_filt hx]
  cases inS (f.cs.take k) x <;> cases inS (f.cs.drop k) x <;> rfl
theorem right_eq' (f : Cnf) (k : Nat) : ((seqI 1 f.n.toNat).filter (inS (f.cs.drop k))).filter (fun x => !hasI (bothV f k f.n.toNat) x) = rightV f k f.n.toNat := by
  unfold rightV bothV
  rw [List.filter_filter]
  refine List.filter_congr fun x hx => ?_
  rw [has_filt hx]
  cases inS (f.cs.take k) x <;> cases inS (f.cs.drop k) x <;> rfl
theorem filt12 {f : Cnf} (h : goodB f = true) (p : Int → Bool) : ((seqI 1 f.n.toNat).filter p).length ≤ 12 := by
  have := filt_len p f.n.toNat
  have := (good_inv h).2.1
  omega
/-- The pointer v leads to a split: the formula, the number of left clauses, the shared variables. -/
def RdSp (w : World) (v : Value) (f : Cnf) (k : Nat) (sh : List Int) : Prop := ∃ b vc vs, v = .pointer (some ⟨b, 0, none⟩) ∧ w.heap[b]? = some (.cells #[.int .i64 f.n, vc, .int .i64 k, vs] 90) ∧ RdSS w vc f.cs ∧ RdI w vs sh
theorem RdSp.ext {w w' : World} {v : Value} {f : Cnf} {k : Nat} {sh : List Int} (h : RdSp w v f k sh) (he : Ext w w') : RdSp w' v f k sh := by
  obtain ⟨b, vc, vs, h1, h2, h3, h4⟩ := h
  exact ⟨b, vc, vs, h1, he.heap h2, h3.ext he, h4.ext he⟩
theorem blk1 {w : World} {b : Nat} {x : Value} {e : TypeId} (h : w.heap[b]? = some (.cells #[x] e)) : w.cell? ⟨b, 0, none⟩ = some x := by simp [World.cell?, h]
theorem blk4' {w : World} {b : Nat} {x y z u : Value} {e : TypeId} (h : w.heap[b]? = some (.cells #[x, y, z, u] e)) : w.cell? ⟨b, 0, none⟩ = some x ∧ w.cell? ⟨b, 1, none⟩ = some y ∧ w.cell? ⟨b, 2, none⟩ = some z ∧ w.cell? ⟨b, 3, none⟩ = some u := by
  refine ⟨?_, ?_, ?_, ?_⟩ <;> simp [World.cell?, h]
theorem blk4f' {w : World} {b : Nat} {x y z u : Value} {e : TypeId} (h : w.heap[b]? = some (.cells #[x, y, z, u] e)) : w.frozen? ⟨b, 0, none⟩ = false ∧ w.frozen? ⟨b, 1, none⟩ = false ∧ w.frozen? ⟨b, 2, none⟩ = false ∧ w.frozen? ⟨b, 3, none⟩ = false := by
  refine ⟨?_, ?_, ?_, ?_⟩ <;> simp [World.frozen?, h]
theorem blk4_set3 {w : World} {b : Nat} {x y z u q : Value} {e : TypeId} (h : w.heap[b]? = some (.cells #[x, y, z, u] e)) : (w.setCell ⟨b, 3, none⟩ q).heap[b]? = some (.cells #[x, y, z, q] e) := by
  simp [World.setCell, Array.getElem?_modify, h]
set_option maxRecDepth 100000 in
set_option maxHeartbeats 1600000 in
theorem i_left (f : Cnf) (k : Nat) (sh : List Int) (v : Value) (w : World) (h : RdSp w v f k sh) (hk : k ≤ f.cs.length) (hl : f.cs.length ≤ 1048576) :
    Calls Try.prog 127 #[v] w (fun e w' => ∃ u, e = .returned u ∧ RdSS w u (f.cs.take k) ∧ ∃ n, w' = w.drewN n) := by
  obtain ⟨b, vc, vs, rfl, hb, hC, -⟩ := h
  obtain ⟨A, c, rfl, h1, h2, ha⟩ := hC.form
  obtain ⟨c0, c1, c2, c3⟩ := blk4' hb
  have hcut := rdSS_cut ha.out hk
  obtain ⟨n, cs⟩ := f
  simp only at *
  have e1 : (0 : Int) ≤ (k : Int) := by omega
  have e2 : (k : Int) ≤ (cs.length : Int) := by omega
  clear hC hb
  rcases hcut with ⟨rfl, h0, rfl⟩ | ⟨a, rfl, rfl, hck⟩ | ⟨a, rfl, hck⟩
  · subst h0
    have HL : Hid (RdSS w (.slice none 0 c) (([] : List (List Int)).take 0)) := hd (rdSS_takeZ h2)
    go_enter Try.func127, Try.ntmps127
    go_wp2_with fail
    go_quiet (fail)
    go_wp2
    go_ret
    exact ⟨_, rfl, HL.out, _, rfl⟩
  · generalize hN : cs.length = N at *
    obtain rfl : N = c := by omega
    have HN := hd hN
    clear hN hck
    have HL := hd (rdSS_take (n := N) ha.out (by rw [HN.out]; exact Nat.le_refl N) : RdSS w (.slice (some a) N N) (cs.take N))
    go_enter Try.func127, Try.ntmps127
    go_wp2_with fail
    go_quiet (fail)
    go_wp2
    go_ret
    exact ⟨_, rfl, HL.out, _, rfl⟩
  · have HL := hd (rdSS_take ha.out hk)
    have hkc : k ≤ c := by omega
    have hkn : ¬ c = k := by omega
    go_enter Try.func127, Try.ntmps127
    go_wp2_with fail
    go_quiet (fail)
    go_wp2
    go_ret
    exact ⟨_, rfl, HL.out, _, rfl⟩
set_option maxRecDepth 100000 in
set_option maxHeartbeats 1600000 in
theorem i_right (f : Cnf) (k : Nat) (sh : List Int) (v : Value) (w : World) (h : RdSp w v f k sh) (hk : k ≤ f.cs.length) (hl : f.cs.length ≤ 1048576) :
    Calls Try.prog 125 #[v] w (fun e w' => ∃ u, e = .returned u ∧ RdSS w u (f.cs.drop k) ∧ ∃ n, w' = w.drewN n) := by
  obtain ⟨b, vc, vs, rfl, hb, hC, -⟩ := h
  obtain ⟨A, c, rfl, h1, h2, ha⟩ := hC.form
  obtain ⟨c0, c1, c2, c3⟩ := blk4' hb
  have hcut := rdSS_cut ha.out hk
  obtain ⟨n, cs⟩ := f
  simp only at *
  have e1 : (0 : Int) ≤ (k : Int) := by omega
  have e2 : (k : Int) ≤ (cs.length : Int) := by omega
  clear hC hb
  rcases hcut with ⟨rfl, h0, rfl⟩ | ⟨a, rfl, rfl, hck⟩ | ⟨a, rfl, hck⟩
  · subst h0
    have HL : Hid (RdSS w (.slice none 0 c) (([] : List (List Int)).drop 0)) := hd (rdSS_dropZ (by simp) h2)
    go_enter Try.func125, Try.ntmps125
    go_wp2_with fail
    go_quiet (fail)
    go_wp2
    go_ret
    exact ⟨_, rfl, HL.out, _, rfl⟩
  · generalize hN : cs.length = N at *
    obtain rfl : N = c := by omega
    have HN := hd hN
    clear hN hck
    have HL := hd (rdSS_dropZ (A := some a) (k := N) (c := 0) (xss := cs) (w := w) (by rw [HN.out]; exact Nat.le_refl _) (Nat.zero_le _))
    go_enter Try.func125, Try.ntmps125
    go_wp2_with fail
    go_quiet (fail)
    go_wp2
    go_ret
    exact ⟨_, rfl, HL.out, _, rfl⟩
  · have HL := hd (rdSS_drop ha.out hk)
    have hkc : k ≤ c := by omega
    have hkn : ¬ c = k := by omega
    go_enter Try.func125, Try.ntmps125
    go_wp2_with fail
    go_quiet (fail)
    go_wp2
    go_ret
    exact ⟨_, rfl, HL.out, _, rfl⟩
theorem enters_splitOf1 : Enters 128 := fun args w => by kernel_rfl
theorem i_splitOf1 (r : List Int) (rv : Value) (y : Int) (a : Addr) (w : World) (h : w.cell? a = some rv) (hr : RdI w rv r) (hl : r.length ≤ 1073741824) :
    Calls Try.prog 128 #[.int .i64 y, .pointer (some a)] w (RetQ w (.bool (!hasI r y))) := by
  have HR := hd hr
  clear hr
  go_enter Try.func128, Try.ntmps128
  go_wp2_with fail
  refine (slices_Contains r rv y _ HR.out hl).mono ?_
  rintro e w1 ⟨rfl, rfl⟩
  go_wp2
  go_ret
  exact RetQ.mk rfl
set_option maxHeartbeats 800000 in
theorem i_splitOf_no (f : Cnf) (v : Value) (k : Int) (w : World) (h : Rd_Cnf w v f) (b : Bd_Cnf f) (hq : askB f k = false) :
    Calls Try.prog 67 #[v, .int .i64 k] w (RetX w (.tuple #[.pointer none, .bool false])) := by
  obtain ⟨A, c, rfl⟩ := h.form
  have X0 : Hid (Ext w (w.alloc (.cells #[.int .i64 f.n, .slice A f.cs.length c] 31))) := hd (Ext.new _ _)
  have HV := hd (h.ext X0.out)
  have HB := hd b
  have HB0 := hd (blk_new (w := w) (.cells #[.int .i64 f.n, .slice A f.cs.length c] 31) rfl)
  obtain ⟨q, hq1⟩ : ∃ q, goodB f = q := ⟨_, rfl⟩
  have HQ := hd hq1
  obtain ⟨p, hp⟩ : ∃ p, inB k 0 f.cs.length = p := ⟨_, rfl⟩
  have HP := hd hp
  have hqp : (q && p) = false := by rw [← hq1, ← hp]; exact hq
  clear h b hq hq1 hp
  go_enter Try.func67, Try.ntmps67
  go_wp2_with fail
  refine (rtx (i_IsCnf f _ _ HV.out HB.out) HQ).mono ?_
  rintro e w1 ⟨rfl, hx1⟩
  obtain ⟨c0, c1⟩ := blk2 (hx1.heap HB0.out)
  have X1 := hd (X0.out.trans hx1)
  clear hx1
  cases q
  · go_wp2
    go_ret2
    exact RetX.mk rfl X1.out
  · obtain rfl : p = false := by simpa using hqp
    go_wp2_with fail
    refine (rt (i_within _ _ _ _) HP).mono ?_
    rintro e w1 ⟨rfl, rfl⟩
    go_wp2
    go_ret2
    exact RetX.mk rfl X1.out
/-- What a split's making leaves: the pointer, and the shared variables in a slice of the call's own. -/
def SpNew (w w' : World) (v : Value) (f : Cnf) (k : Nat) (sh : List Int) : Prop := ∃ b vc vs, v = .pointer (some ⟨b, 0, none⟩) ∧ w.heap.size ≤ b ∧ w'.heap[b]? = some (.cells #[.int .i64 f.n, vc, .int .i64 k, vs] 90) ∧ RdSS w' vc f.cs ∧ OwnI w' w.heap.size 3 vs sh ∧ vs.ownBlock ≠ some b
theorem SpNew.rd {w w' : World} {v : Value} {f : Cnf} {k : Nat} {sh : List Int} (h : SpNew w w' v f k sh) : RdSp w' v f k sh := by
  obtain ⟨b, vc, vs, h1, _, h2, h3, h4, _⟩ := h
  exact ⟨b, vc, vs, h1, h2, h3, h4.rd⟩
set_option maxRecDepth 100000 in
set_option maxHeartbeats 3200000 in
theorem i_splitOf_yes (f : Cnf) (v : Value) (k : Nat) (w : World) (h : Rd_Cnf w v f) (b : Bd_Cnf f) (hg : goodB f = true) (hk : k ≤ f.cs.length) :
    Calls Try.prog 67 #[v, .int .i64 k] w (fun e w' => ∃ p, e = .returned (.tuple #[p, .bool true]) ∧ SpNew w w' p f k (bothV f k f.n.toNat) ∧ Ext w w') := by
  obtain ⟨A, c, rfl⟩ := h.form
  have X0 : Hid (Ext w (w.alloc (.cells #[.int .i64 f.n, .slice A f.cs.length c] 31))) := hd (Ext.new _ _)
  have HV := hd (h.ext X0.out)
  have HB := hd b
  have hl := (good_inv hg).2.2.1
  have HB0 := hd (blk_new (w := w) (.cells #[.int .i64 f.n, .slice A f.cs.length c] 31) rfl)
  have HP : Hid (inB (k : Int) 0 f.cs.length = true) := hd (inB_iff.2 (by omega))
  have HG := hd hg
  have HL := hd (vars_eq hg (mem_t (k := k)))
  have HR := hd (vars_eq hg (mem_d (k := k)))
  have HTL : Hid ((f.cs.take k).flatten.length ≤ 1048576 ∧ (f.cs.take k).length ≤ 1048576) := hd ⟨good_take hg k, by simp; omega⟩
  have HDL : Hid ((f.cs.drop k).flatten.length ≤ 1048576 ∧ (f.cs.drop k).length ≤ 1048576) := hd ⟨good_drop hg k, by simp; omega⟩
  have HC : Hid (RdSS w (.slice A f.cs.length c) f.cs) := hd (by obtain ⟨vc, h1, h2⟩ := h; injection h1 with h1; simp at h1; rw [h1]; exact h2)
  have HK := hd hk
  have H12' := hd (filt12 hg (inS (f.cs.drop k)))
  have HBO := hd (both_eq f k)
  generalize (seqI 1 f.n.toNat).filter (inS (f.cs.drop k)) = R at *
  clear h b hg hk
  go_enter Try.func67, Try.ntmps67
  go_wp2_with fail
  refine (rtx (i_IsCnf f _ _ HV.out HB.out) HG).mono ?_
  rintro e w1 ⟨rfl, hx1⟩
  obtain ⟨c0, c1⟩ := blk2 (hx1.heap HB0.out)
  have X1 := hd (X0.out.trans hx1)
  have hs1 : w.heap.size < w1.heap.size := by have := hx1.size; simp at this; omega
  clear hx1 HB0
  go_wp2_with fail
  refine (rt (i_within _ _ _ _) HP).mono ?_
  rintro e w2 ⟨rfl, rfl⟩
  go_wp2_with fail
  have Y1 : Hid (Ext w (w1.alloc (.cells #[.int .i64 f.n, .slice A f.cs.length c, .int .i64 k, .slice none 0 0] 90))) := hd (X1.out.alloc _)
  have S1 : Hid (RdSp (w1.alloc (.cells #[.int .i64 f.n, .slice A f.cs.length c, .int .i64 k, .slice none 0 0] 90)) (.pointer (some ⟨w1.heap.size, 0, none⟩)) f k []) := hd ⟨_, _, _, rfl, blk_new _ rfl, HC.out.ext Y1.out, Rd.nil _ _⟩
  clear X1 c0 c1
  refine (i_right f k [] _ _ S1.out HK.out (by omega)).mono ?_
  rintro e w2 ⟨u, rfl, hu, n2, rfl⟩
  have Y2 := hd (Y1.out.drewN n2)
  have S2 := hd (S1.out.ext (ext_drewN _ n2))
  have HU := hd (hu.ext (ext_drewN _ n2))
  clear hu Y1 S1
  go_wp2_with fail
  refine (i_varsOf _ _ _ HU.out HDL.out.1 HDL.out.2).mono ?_
  rw [HR.out]
  rintro e w3 ⟨u3, rfl, hu3, hx3⟩
  obtain ⟨A3, c3, rfl, HU3⟩ := hu3.form
  have Y3 := hd (Y2.out.trans hx3)
  have S3 := hd (S2.out.ext (hx3.trans (Ext.new w3 (.cells #[.slice A3 R.length c3] 45))))
  have HS3 : Hid (w3.heap[w1.heap.size]? = some (.cells #[.int .i64 f.n, .slice A f.cs.length c, .int .i64 k, .slice none 0 0] 90)) := hd (hx3.heap (blk_new _ rfl))
  have hs3 : w1.heap.size < w3.heap.size := by have := hx3.size; simp at this; omega
  have HB3 := hd (blk_new (w := w3) (.cells #[.slice A3 R.length c3] 45) rfl)
  clear hu3 hx3 Y2 S2 HU
  go_wp2_with fail
  refine (i_left f k [] _ _ S3.out HK.out (by omega)).mono ?_
  rintro e w4 ⟨u4, rfl, hu4, n4, rfl⟩
  have HU4 := hd (hu4.ext (ext_drewN _ n4))
  clear hu4 S3
  go_wp2_with fail
  refine (i_varsOf _ _ _ HU4.out HTL.out.1 HTL.out.2).mono ?_
  rw [HL.out]
  rintro e w5 ⟨u5, rfl, hu5, hx5⟩
  have HU5 := hd hu5
  have HB5 := hd (hx5.heap (w := (w3.alloc (.cells #[.slice A3 R.length c3] 45)).drewN n4) HB3.out)
  have HS5 := hd (hx5.heap (w := (w3.alloc (.cells #[.slice A3 R.length c3] 45)).drewN n4) (blk_old HS3.out))
  have Y5 := hd (((Y3.out.alloc (.cells #[.slice A3 R.length c3] 45)).drewN n4).trans hx5)
  have HR5 := hd (OwnI.ext HU3.out (((Ext.new w3 (.cells #[.slice A3 R.length c3] 45)).drewN n4).trans hx5))
  have hs5 : w3.heap.size + 1 ≤ w5.heap.size := by have := hx5.size; simpa using this
  have H12 := hd (filt12 HG.out (inS (f.cs.take k)))
  have HLT3 := hd (own_lt HU3.out)
  clear hu5 hx5 HU4 HB3 HS3 Y3 HU3
  go_wp2_with fail
  refine (slices_DeleteFunc ((seqI 1 f.n.toNat).filter (inS (f.cs.take k))) u5 128 _ (fun y => !hasI R y) w5 _ (w3.heap.size + 1) HU5.out (by have := H12.out; omega) (by simp) enters_splitOf1 (hd fun x hx w' hb' => ?_)).mono ?_
  · refine i_splitOf1 _ _ x _ w' ((hb'.cell (by first | (simp; done) | (simp; omega) | omega)).trans (blk1 HB5.out)) (OwnI.rd (own_below HR5.out hb' fun g hg => by have := HLT3.out g hg; omega)) (by have := H12'.out; omega)
  · rintro e w6 ⟨u6, rfl, hu6, hg6, ho6⟩
    have HS6 : Hid (w6.heap[w1.heap.size]? = some (.cells #[.int .i64 f.n, .slice A f.cs.length c, .int .i64 k, .slice none 0 0] 90)) := hd ((hg6.block w1.heap.size (by omega) (fun e => by have := ownI_ge HU5.out _ e.symm; simp at this; omega)).trans HS5.out)
    have Y6 : Hid (Ext w w6) := hd (Y5.out.grown hg6 Y5.out.size (fun g hg => by have := ownI_ge HU5.out g hg; simp at this; omega))
    rw [HBO.out] at hu6
    obtain ⟨A6, c6, rfl, HU6⟩ := hu6.form
    obtain ⟨d0, d1, d2, d3⟩ := blk4' HS6.out
    obtain ⟨g0, g1, g2, g3⟩ := blk4f' HS6.out
    have HNE : Hid (∀ g, (Value.slice A6 (bothV f k f.n.toNat).length c6).ownBlock = some g → w3.heap.size + 1 ≤ g) := hd (fun g hg => by have := ownI_ge HU6.out g hg; simpa using this)
    clear hu6 hg6 ho6
    go_wp2
    go_ret2
    refine ⟨_, rfl, ⟨w1.heap.size, .slice A f.cs.length c, _, rfl, by omega, blk4_set3 HS6.out, HC.out.ext (Y6.out.setCell (by simp; omega) _), ?_, fun e => by have := HNE.out _ e; omega⟩, Y6.out.setCell (by simp; omega) _⟩
    exact own_rebase (own_touch HU6.out ((Touch.refl w1.heap.size (w1.heap.size + 1) w6).setCell (p := ⟨w1.heap.size, 3, none⟩) (by simp) (by simp) _) (fun g hg => by have := HNE.out g hg; omega)) (by simp; omega)
end Go.Proofs.Ytjeeffmpfdhppaa
