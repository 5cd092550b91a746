/-
  The family's add, with other rows beside it. Conditions: numbers within 1000, at most 2^20 literals, 2^30 clauses.
-/
import Derived.Test.YtjeeffmpfdhppaaFamA
import Derived.Test.YtjeeffmpfdhppaaMust
namespace Go.Proofs.Ytjeeffmpfdhppaa
open Go.RowKit
/-- append of a row to the family's lists, at a step of a region that draws its order. -/
theorem stepF {w0 w wa : World} {bx lo : Nat} {T : TypeId} {n : Int} {fv u src : Value} {ev vs : List Value} {es xss : List (List Int)} {ys : List Int} {ops : Array Oper} {o : Oper} {a : Act} {Q : Exit → Act → World → Prop} {K : Act → World → Prop} {E : Prop}
    (h : FamA w0 w bx T n lo fv ev vs [u] es xss [ys]) (hT : T ≠ 45) (hT2 : T ≠ 3) (ha : Ext w wa) (hsrc : Rd wa 1 src 1 [u]) (hgd : o.guard = none) (s x : Operand)
    (ho : o.op = .call { callee := .builtin .append, args := #[s, x], argTypes := #[22, 22] })
    (hs : a.eval s = fv) (hx : a.eval x = src) (hn : xss.length ≤ 1073741824)
    (k : ∀ L A c w1, Hid (L = xss.length + 1) → w1.heap[bx]? = some (.cells #[.int .i64 n, fv] T (0, 0)) → Hid (FamA w0 (w1.setCell ⟨bx, 1, none⟩ (.slice A L c)) bx T n lo (.slice A L c) ev (vs ++ [u]) [] es (xss ++ [ys]) []) → Ext w0 w1 → K (a.put o.dst (.slice A L c)) w1) :
    if Region.wanted o (yielded ops a.tmps) = true then Oper.wp Try.prog o a wa K Q else E := by
  have hw : Region.wanted o (yielded ops a.tmps) = true := by simp [Region.wanted, hgd]
  rw [if_pos hw]
  have hu1 : u.oneCell' = true := by
    obtain ⟨A, c, rfl, -⟩ := h.rowT.rd.form
    rfl
  refine wp_app wa s x 22 ho lo 45 Try.underlying22 info_ints (by decide) rfl (by decide) (own_ext h.own ha) hsrc (by simpa using hu1) hs hx (by rw [h.len.2]; omega) (Nat.le_trans h.low ha.size) fun v' w' k1 k2 _ => ?_
  obtain ⟨hl, A, c, rfl, -⟩ := own_rd k1
  exact k _ A c w' (hd (by rw [h.len.2])) (h.blk1 hT ha k2) (hd (h.push hT hT2 ha k1 k2)) (ext_appS (h.ext.trans ha) k2 h.own_low)
set_option maxRecDepth 100000 in
set_option maxHeartbeats 3200000 in
theorem i_addA (w0 w : World) (bx : Nat) (n : Int) (lo : Nat) (fv : Value) (ev vs : List Value) (es xss : List (List Int)) (xs ys : List Int) (v : Value) (hF : FamA w0 w bx 109 n lo fv ev vs [] es xss []) (h : RdI w v xs) (hl : xs.length ≤ 1048576) (hn : xss.length ≤ 1048576) (hp : Hid (ys.Perm xs)) (hs : Hid (ys.Pairwise fun a b => absI a < absI b)) (hb : Hid (∀ x ∈ ys, -1000 ≤ x ∧ x ≤ 1000)) :
    Calls Try.prog 97 #[.pointer (some ⟨bx, 0, none⟩), v] w (fun e w' => e = .returned (.tuple #[]) ∧ ∃ fv' vs', FamA w0 w' bx 109 n lo fv' ev vs' [] es (xss ++ [ys]) []) := by
  have HF := hd hF
  have HR := hd h
  obtain ⟨c0, c1⟩ := blk2 hF.blk
  obtain ⟨f0, f1⟩ := blk2f hF.blk
  have hbl := blk_lt hF.blk
  have HMC : Hid (∀ w', Ext w w' → Calls Try.prog 140 #[v] w' (RetI w' 3 ys)) := hd fun w' hx => i_mustClause xs ys v w' (h.ext hx) hl hp hs hb
  clear hF h
  obtain ⟨wo, rfl⟩ : ∃ wo : World, wo = w := ⟨_, rfl⟩
  go_enter Try.func97, Try.ntmps97
  go_wp2_with fail
  have hx0 := HF.out.ext
  go_region_law (first
    | (go_simp; go_at_call 140; refine (HMC.out _ (by first | exact Ext.refl _ | exact (Ext.refl _).drew | exact ext_drewN _ _)).mono ?_; rintro e w1 ⟨u, rfl, hu, hx1⟩
       have X1 : Ext wo w1 := Ext.trans (by first | exact Ext.refl _ | exact (Ext.refl _).drew | exact ext_drewN _ _) hx1
       have X2 : Ext w0 w1 := hx0.trans X1
       have d0 := X1.cell c0
       have d1 := X1.cell c1
       have d2 := Nat.lt_of_lt_of_le hbl X1.size
       obtain ⟨A4, c4, rfl, -⟩ := hu.rd.form
       have hu' : OwnI w1 wo.heap.size 3 (.slice A4 ys.length c4) ys := own_rebase hu (by simp)
       have FT := hd (FamA.newT HF.out X1 hu'))
    | (refine stepF (u := .slice A4 ys.length c4) FT.out (by decide) (by decide) (Ext.new _ _) (rd_oneV _ _ _) rfl (.tmp 8) (.tmp 11) rfl (by rfl) (by rfl) (by omega) ?_
       intro L A5 c5 w2 _ hB2 HP X8
       obtain ⟨q0, q1⟩ := blk2 hB2
       obtain ⟨q2, q3⟩ := blk2f hB2
       have q4 := blk_lt hB2
       have X9 := HP.out.ext))
  all_goals
    go_wp2
    go_end0
    exact ⟨rfl, _, _, HP.out⟩
end Go.Proofs.Ytjeeffmpfdhppaa
