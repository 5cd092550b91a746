/-
  SeededCnf: the program's chooser, and the family's add beside a box. Conditions: numbers within 1000, at most 2^20 literals, 2^30 clauses.
-/
import Derived.Test.YtgkifandgacncaaSeedW
import Derived.Test.YtgkifandgacncaaFam
import Derived.Test.YtgkifandgacncaaFamC
import Derived.Test.YtgkifandgacncaaSort
namespace Go.Proofs.Ytgkifandgacncaa
open Go.RowKit Seed
section
variable {w w' : World} {b : Nat} {x u : Value} {e : TypeId}
theorem blk1s (h : w.heap[b]? = some (.cells #[x] e)) : w.cell? ⟨b, 0, none⟩ = some x := by simp [World.cell?, h]
theorem blk1fs (h : w.heap[b]? = some (.cells #[x] e)) : w.frozen? ⟨b, 0, none⟩ = false := by simp [World.frozen?, h]
theorem blk1_sets (h : w.heap[b]? = some (.cells #[x] e)) : (w.setCell ⟨b, 0, none⟩ u).heap[b]? = some (.cells #[u] e) := by
  simp [World.setCell, Array.getElem?_modify, h]
end
theorem ext_set2 {a b : World} (h : Ext a b) (p : Addr) (v : Value) : Ext (a.setCell p v) (b.setCell p v) :=
  ⟨h.os, h.tape, h.output, by simpa [World.setCell] using h.size, fun k hk => by
    simp only [World.setCell, Array.getElem?_modify]
    rw [h.block k (by simpa [World.setCell] using hk)]⟩
theorem i_below (n : Nat) (s cb : Nat) (w : World) (h : w.heap[cb]? = some (.cells #[.int .i64 (s : Int)] 71)) (hn : 1 ≤ n ∧ n ≤ 12) (hs : s < 65536) :
    Calls Try.prog 48 #[.pointer (some ⟨cb, 0, none⟩), .int .i64 (n : Int)] w (fun e w' => ∃ r : Int, e = .returned (.int .i64 r) ∧ r = ((nxt s / 16 % n : Nat) : Int) ∧ w' = w.setCell ⟨cb, 0, none⟩ (.int .i64 ((nxt s : Nat) : Int))) := by
  have c0 := blk1s h
  have f0 := blk1fs h
  have hl := blk_lt h
  have c1 := blk1s (blk1_sets (u := .int .i64 ((nxt s : Nat) : Int)) h)
  have n1 := nxI s
  have n3 := vvI n (nxt s)
  have hl1 := nxt_lt s
  have hn0 : ¬ (n : Int) = 0 := by omega
  generalize hb : nxt s / 16 % n = r0 at *
  have hr0 : r0 < n := by rw [← hb]; exact Nat.mod_lt _ (by omega)
  clear hb
  generalize nxt s = s1 at *
  go_enter Try.func48, Try.ntmps48
  go_wp2
  go_ret
  exact ⟨_, rfl, n3, rfl⟩
theorem rdSS_oneS {w W : World} {e : TypeId} {u : Value} {xs : List Int} (h : RdI W u xs) (hx : Ext (w.alloc (.cells #[u] e)) W) : RdSS W (.slice (some ⟨w.heap.size, 0, none⟩) 1 1) [xs] := by
  refine ⟨[u], Rd.ext (s := 1) (n := 1) (cs := [u]) ⟨rfl, some ⟨w.heap.size, 0, none⟩, 1, rfl, Nat.le_refl _, by unfold maxLen; omega, fun j x hx => ⟨_, rfl, ?_⟩⟩ hx, fun i ys hi => ?_⟩
  · exact cell_one_new w _ e j x hx
  · cases i with
    | zero => obtain rfl : xs = ys := by simpa using hi
              exact ⟨u, rfl, h⟩
    | succ i => simp at hi
set_option maxRecDepth 100000 in
set_option maxHeartbeats 3200000 in
theorem i_addC (w0 w : World) (bx cb : Nat) (n : Int) (lo : Nat) (ov x0 : Value) (xss : List (List Int)) (xs ys : List Int) (v : Value) (hF : FamB w0 w bx 52 n lo ov xss) (hC : w.heap[cb]? = some (.cells #[x0] 71 (0, 0))) (h : RdI w v xs) (hl : xs.length ≤ 1048576) (hn : xss.length ≤ 1048576) (hp : Hid (ys.Perm xs)) (hs : Hid (ys.Pairwise fun a b => absI a < absI b)) (hb : Hid (∀ x ∈ ys, -1000 ≤ x ∧ x ≤ 1000)) :
    Calls Try.prog 42 #[.pointer (some ⟨bx, 0, none⟩), v] w (fun e w' => e = .returned (.tuple #[]) ∧ ∃ ov', FamB w0 w' bx 52 n lo ov' (xss ++ [ys]) ∧ w'.heap[cb]? = some (.cells #[x0] 71 (0, 0)) ∧ w.heap.size ≤ w'.heap.size) := by
  have HF := hd hF
  have HR := hd h
  have HCB := hd hC
  have hcbx : cb ≠ bx := fun e => by
    have := hF.blk
    rw [← e, hC] at this
    simp at this
  obtain ⟨c0, c1⟩ := blk2 hF.blk
  obtain ⟨f0, f1⟩ := blk2f hF.blk
  have hbl := blk_lt hF.blk
  have HMC : Hid (∀ w', Ext w w' → Calls Try.prog 58 #[v] w' (RetI w' 3 ys)) := hd fun w' hx => i_mustClause xs ys v w' (h.ext hx) hl hp hs hb
  have HNE : Hid (∀ g, ov.ownBlock = some g → some cb = some g → False) := hd (by
    obtain ⟨vs, a1, _, _⟩ := hF.own
    exact own_box a1 hC (by decide))
  clear hF h hC
  obtain ⟨wo, rfl⟩ : ∃ wo : World, wo = w := ⟨_, rfl⟩
  go_enter Try.func42, Try.ntmps42
  go_wp2_with fail
  have hx0 := HF.out.ext
  go_region_law (first
    | (go_simp; go_at_call 58; refine (HMC.out _ (by first | exact Ext.refl _ | exact (Ext.refl _).drew | exact ext_drewN _ _)).mono ?_; rintro e w1 ⟨u, rfl, hu, hx1⟩
       have X1 : Ext wo w1 := Ext.trans (by first | exact Ext.refl _ | exact (Ext.refl _).drew | exact ext_drewN _ _) hx1
       have X2 : Ext w0 w1 := hx0.trans X1
       have d0 := X1.cell c0
       have d1 := X1.cell c1
       have d2 := Nat.lt_of_lt_of_le hbl X1.size
       obtain ⟨A4, c4, rfl, -⟩ := hu.rd.form
       have hu' : OwnI w1 wo.heap.size 3 (.slice A4 ys.length c4) ys := own_rebase hu (by simp))
    | (refine stepL _ (v := ov) (src := .slice (some ⟨_, 0, none⟩) 1 1) (lo := lo) (hi := wo.heap.size) ((HF.out.own.ext X1).ext (Ext.new _ _)) (own_ext hu' (Ext.new _ _)) HF.out.low (Nat.le_trans X1.size (by simp)) (rd_oneV _ _ _) rfl (.tmp 8) (.tmp 11) rfl (by rfl) (by rfl) (by omega) ?_
       intro v' w2 ho2 hg2
       obtain ⟨A5, c5, rfl, h51, h52⟩ := OwnSS.form ho2
       rw [show (xss ++ [ys]).length = xss.length + 1 from by simp] at ho2
       have hB2 := HF.out.blk1 (by decide) (X1.alloc _) hg2
       obtain ⟨q0, q1⟩ := blk2 hB2
       obtain ⟨q2, q3⟩ := blk2f hB2
       have q4 := blk_lt hB2
       have HP := HF.out.put (by decide) (by decide) (X1.alloc _) ho2 hg2
       have X9 := HP.ext
       have X8 : Ext w0 w2 := ext_appS (hx0.trans (X1.alloc _)) hg2 HF.out.own_low
       have hcb1 := (X1.alloc (.cells #[.slice A4 ys.length c4] 23)).heap HCB.out
       have hcb2 : w2.heap[cb]? = some (.cells #[x0] 71 (0, 0)) := (hg2.block cb (blk_lt hcb1) (fun e => HNE.out cb e.symm rfl)).trans hcb1
       have HC9 := hd hcb2
       have HZ9 := hd (Nat.le_trans (X1.alloc (.cells #[.slice A4 ys.length c4] 23)).size hg2.size)))
  all_goals
    go_wp2
    go_end0
    exact ⟨rfl, _, HP, blk_other HC9.out (fun e => hcbx e.symm), by simpa [World.setCell] using HZ9.out⟩
/-- The family and the chooser's box. -/
structure SeedW (w0 w : World) (bx cb lo : Nat) (n : Int) (ov : Value) (xss : List (List Int)) (s : Nat) : Prop where
  fam : FamB w0 w bx 52 n lo ov xss
  ch : w.heap[cb]? = some (.cells #[.int .i64 (s : Int)] 71 (0, 0))
  cb0 : w0.heap.size ≤ cb
section
variable {w0 w w' wc : World} {bx cb lo sz s : Nat} {n : Int} {ov lv : Value} {xss : List (List Int)} {L : List Int}
theorem SeedW.step (h : SeedW w0 w bx cb lo n ov xss s) (s' : Nat) : SeedW w0 (w.setCell ⟨cb, 0, none⟩ (.int .i64 (s' : Int))) bx cb lo n ov xss s' := by
  have hg := grown_set (grown_refl w (some cb)) 0 (.int .i64 (s' : Int))
  have hne : cb ≠ bx := fun e => by
    have := h.fam.blk
    rw [← e, h.ch] at this
    simp at this
  exact ⟨⟨blk_other h.fam.blk hne, (h.fam.own.box h.ch (by decide) (by decide) hg).hi_le hg.size, ext_appS (v := .slice (some ⟨cb, 0, none⟩) 0 0) h.fam.ext hg (fun x hx => by obtain rfl : cb = x := Option.some.inj hx; exact h.cb0), h.fam.bx0, h.fam.lo0, Nat.le_trans h.fam.low hg.size⟩, blk1_sets h.ch, h.cb0⟩
theorem SeedW.on (h : SeedW w0 w bx cb lo n ov xss s) (hx : Ext w w') : SeedW w0 w' bx cb lo n ov xss s := ⟨h.fam.on hx, hx.heap h.ch, h.cb0⟩
/-- The same while a list of literals is drawn, which lies behind a mark. -/
def InW (w0 w : World) (bx cb lo sz : Nat) (n : Int) (ov : Value) (xss : List (List Int)) (s : Nat) (lv : Value) (L : List Int) : Prop :=
  ∃ wc, SeedW w0 wc bx cb lo n ov xss s ∧ wc.heap.size = sz ∧ Ext wc w ∧ OwnI w sz 3 lv L
theorem InW.all (h : InW w0 w bx cb lo sz n ov xss s lv L) : SeedW w0 w bx cb lo n ov xss s := by
  obtain ⟨wc, h1, -, h3, -⟩ := h
  exact h1.on h3
theorem InW.own (h : InW w0 w bx cb lo sz n ov xss s lv L) : OwnI w sz 3 lv L := by
  obtain ⟨wc, -, -, -, h4⟩ := h
  exact h4
theorem InW.size (h : InW w0 w bx cb lo sz n ov xss s lv L) : sz ≤ w.heap.size := by
  obtain ⟨wc, -, rfl, h3, -⟩ := h
  exact h3.size
theorem InW.start (h : SeedW w0 w bx cb lo n ov xss s) : InW w0 w bx cb lo w.heap.size n ov xss s (.slice none 0 0) [] := ⟨w, h, rfl, Ext.refl _, ownI_nil _ _ _⟩
theorem InW.step (h : InW w0 w bx cb lo sz n ov xss s lv L) (s' : Nat) : InW w0 (w.setCell ⟨cb, 0, none⟩ (.int .i64 (s' : Int))) bx cb lo sz n ov xss s' lv L := by
  have hch := h.all.ch
  obtain ⟨wc, h1, h2, h3, h4⟩ := h
  exact ⟨_, h1.step s', by rw [← h2]; simp [World.setCell], ext_set2 h3 _ _, OwnI.box h4 hch (by decide) (grown_set (grown_refl w (some cb)) 0 _)⟩
theorem InW.on (h : InW w0 w bx cb lo sz n ov xss s lv L) (hx : Ext w w') : InW w0 w' bx cb lo sz n ov xss s lv L := by
  obtain ⟨wc, h1, h2, h3, h4⟩ := h
  exact ⟨wc, h1, h2, h3.trans hx, h4.ext hx⟩
theorem InW.app {lv' : Value} {x : Int} (h : InW w0 w bx cb lo sz n ov xss s lv L) (ho : OwnI w' sz 3 lv' (L ++ [x])) (hg : (w.alloc (.cells #[.int .i64 x] 3)).grownBy w' lv.ownBlock) : InW w0 w' bx cb lo sz n ov xss s lv' (L ++ [x]) := by
  obtain ⟨wc, h1, rfl, h3, h4⟩ := h
  exact ⟨wc, h1, rfl, ext_app h3 hg (ownI_ge h4), ho⟩
end
end Go.Proofs.Ytgkifandgacncaa
