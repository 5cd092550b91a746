/-
  The program's choices: the walk. Condition: at most 1000 numbers, not more lists than the limit.
-/
import Derived.Test.YtjeeffmpfdhppaaChsI
import Derived.IntWalk
namespace Go.Proofs.Ytjeeffmpfdhppaa
open Go.RowKit
/-- append(rv, x) at a step of a region that draws its order. -/
theorem stepFork {w0 w wa : World} {bo lo nb : Nat} {fv ov rv : Value} {vs : List Value} {xss : List (List Int)} {xs : List Int} {x : Int} {ops : Array Oper} {o : Oper} {a : Act} {Q : Exit → Act → World → Prop} {K : Act → World → Prop} {E : Prop}
    (h : ChS w0 w bo lo fv ov vs xss rv xs) (ha : Ext w wa) (hx : wa.cell? ⟨nb, 0, none⟩ = some (.int .i64 x)) (hn : xs.length ≤ 1000) (hgd : o.guard = none) (s y : Operand)
    (ho : o.op = .call { callee := .builtin .append, args := #[s, y], argTypes := #[45, 45] })
    (hs : a.eval s = rv) (hy : a.eval y = .slice (some ⟨nb, 0, none⟩) 1 1)
    (k : ∀ rv' w1, ChS w0 w1 bo lo fv ov vs xss rv' (xs ++ [x]) → w.heap.size ≤ w1.heap.size →
      Hid (∀ w2 ov' ws yss, ChS w0 w2 bo lo fv ov' (vs ++ ws) yss rv' (xs ++ [x]) → ChF w1 w2 bo ov ov' rv' ws → ChS w0 w2 bo lo fv ov' (vs ++ ws) yss rv xs ∧ ChF w w2 bo ov ov' rv ws) → K (a.put o.dst rv') w1) :
    if Region.wanted o (yielded ops a.tmps) = true then Oper.wp Try.prog o a wa K Q else E := by
  have hw : Region.wanted o (yielded ops a.tmps) = true := by simp [Region.wanted, hgd]
  rw [if_pos hw]
  obtain ⟨rv', w1, hr, h1, h2, h3, h4, h5⟩ := run_fork (ty := o.type) h.row ha h.low hx hn
  unfold Oper.wp execOp
  simp only [ho, resolve, invoke, builtin, Sem.run_bind, Sem.run_pure, Result.andThen_ok, List.map_toArray, List.map_cons, List.map_nil, hs, hy, hr]
  exact k rv' w1 (h.fork ha h1 h2 h3 h4) (Nat.le_trans ha.size h2.size) (hd fun w2 ov' ws yss a b => h.back ha h2 h3 h4 h5 a b)
theorem blkc1 {w : World} {b : Nat} {x : Value} {e : TypeId} (h : w.heap[b]? = some (.cells #[x] e)) : w.cell? ⟨b, 0, none⟩ = some x ∧ w.frozen? ⟨b, 0, none⟩ = false := by simp [World.cell?, World.frozen?, h]
theorem cell_oneV (w : World) (u : Value) (e : TypeId) : (w.alloc (.cells #[u] e)).cell? ⟨w.heap.size, 0, none⟩ = some u := (blkc1 (heap_alloc_new w _)).1
/-- append of a list to the lists, at a step of a region that draws its order. -/
theorem stepCh {w0 w w1 wa : World} {bo lo : Nat} {fv ov rv u src : Value} {vs : List Value} {xss : List (List Int)} {xs ys : List Int} {ops : Array Oper} {o : Oper} {a : Act} {Q : Exit → Act → World → Prop} {K : Act → World → Prop} {E : Prop}
    (h : ChS w0 w bo lo fv ov vs xss rv xs) (hx : Ext w w1) (hu : OwnI w1 w.heap.size 3 u ys) (ha : Ext w1 wa) (hsrc : Rd wa 1 src 1 [u]) (hgd : o.guard = none) (s y : Operand)
    (ho : o.op = .call { callee := .builtin .append, args := #[s, y], argTypes := #[22, 22] })
    (hs : a.eval s = ov) (hy : a.eval y = src) (hn : xss.length ≤ 1073741824)
    (k : ∀ L A c w2, w2.heap[bo]? = some (.cells #[ov] 22 (0, 0)) → Hid (ChS w0 (w2.setCell ⟨bo, 0, none⟩ (.slice A L c)) bo lo fv (.slice A L c) (vs ++ [u]) (xss ++ [ys]) rv xs) → Hid (ChF w (w2.setCell ⟨bo, 0, none⟩ (.slice A L c)) bo ov (.slice A L c) rv [u]) → Ext w0 w2 → K (a.put o.dst (.slice A L c)) w2) :
    if Region.wanted o (yielded ops a.tmps) = true then Oper.wp Try.prog o a wa K Q else E := by
  have hw : Region.wanted o (yielded ops a.tmps) = true := by simp [Region.wanted, hgd]
  rw [if_pos hw]
  have hu1 : u.oneCell' = true := by
    obtain ⟨A, c, rfl, -⟩ := hu.rd.form
    rfl
  have hab := hx.trans ha
  refine wp_app wa s y 22 ho lo 45 Try.underlying22 info_ints (by decide) rfl (by decide) (own_ext h.own hab) hsrc (by simpa using hu1) hs hy (by rw [h.inn.1]; omega) (Nat.le_trans h.low hab.size) fun v' w' k1 k2 k3 => ?_
  obtain ⟨hl, A, c, rfl, -⟩ := own_rd k1
  obtain ⟨a1, a2, a3⟩ := h.push hx hu k1 ha k2 k3
  exact k _ A c w' a1 (hd a2) (hd a3) (ext_appS (h.ext.trans hab) k2 fun g e => Nat.le_trans (Nat.le_trans h.bo0 (by have := h.lo0; omega)) (own_blocks h.own g e).1)
theorem enters_choices1 : Enters 132 := fun args w => by kernel_rfl
def growV (bo bl bm bn : Nat) : Value := .func (.func 132) #[] #[.pointer (some ⟨bo, 0, none⟩), .pointer (some ⟨bl, 0, none⟩), .pointer (some ⟨bm, 0, none⟩), .pointer (some ⟨bn, 0, none⟩), .pointer (some ⟨bo + 1, 0, none⟩)]
set_option maxRecDepth 100000 in
set_option maxHeartbeats 6400000 in
theorem i_grow (n many limit bl bm bn bo lo : Nat) (w0 : World) (hn : n ≤ 1000) (hm : many ≤ 1000) (hlm : limit ≤ 1000000)
    (hl : w0.cell? ⟨bl, 0, none⟩ = some (.int .i64 limit)) (hmm : w0.cell? ⟨bm, 0, none⟩ = some (.int .i64 many)) (hnn : w0.cell? ⟨bn, 0, none⟩ = some (.int .i64 n)) :
    ∀ d, ∀ (xs : List Int) (f : Nat) (rv ov : Value) (vs : List Value) (xss : List (List Int)) (w : World), xs.length + d = many → f ≤ n + 1 → ChS w0 w bo lo (growV bo bl bm bn) ov vs xss rv xs → xss.length + (chL n d xs f).length ≤ limit →
      Calls Try.prog 132 #[rv, .int .i64 f, .pointer (some ⟨bo, 0, none⟩), .pointer (some ⟨bl, 0, none⟩), .pointer (some ⟨bm, 0, none⟩), .pointer (some ⟨bn, 0, none⟩), .pointer (some ⟨bo + 1, 0, none⟩)] w
        (fun e w' => e = .returned (.tuple #[]) ∧ ∃ ov' ws, ChS w0 w' bo lo (growV bo bl bm bn) ov' (vs ++ ws) (xss ++ chL n d xs f) rv xs ∧ ChF w w' bo ov ov' rv ws) := by
  intro d
  induction d with
  | zero =>
    intro xs f rv ov vs xss w hxd hf hC hlim
    have HC := hd hC
    obtain rfl : many = xs.length := by omega
    have h1 : xss.length + 1 ≤ limit := by simpa [chL] using hlim
    have cO : w.cell? ⟨bo, 0, none⟩ = some ov := (blkc1 hC.blk).1
    have hbl := blk_lt hC.blk
    have cL := hC.ext.cell hl
    have cM := hC.ext.cell hmm
    have hov := own_rd hC.own
    have hil : vs.length ≤ limit := by have := hC.inn.1; omega
    have hxl : xss.length ≤ 1073741824 := by omega
    clear h1 hxd
    obtain ⟨-, Ao, co, rfl, -⟩ := hov
    obtain ⟨Ar, cr, rfl, -⟩ := OwnI.form hC.row
    have HR : Hid (RdI w (.slice Ar xs.length cr) xs) := hd hC.row.rd
    have HCL : Hid (∀ w', Ext w w' → Calls Try.prog 133 #[.slice Ar xs.length cr] w' (RetI w' 3 xs)) := hd fun w' hx => slices_Clone xs _ w' (HR.out.ext hx) (by omega)
    clear hC hlim hl hmm hnn
    go_enter Try.func132, Try.ntmps132
    obtain ⟨wo, rfl⟩ : ∃ wo : World, wo = w := ⟨_, rfl⟩
    go_wp2_with fail
    go_region_law (first
      | (go_simp; go_at_call 133; refine (HCL.out _ (by first | exact Ext.refl _ | exact (Ext.refl _).drew | exact ext_drewN _ _)).mono ?_; rintro e w1 ⟨u, rfl, hu, hx1⟩
         have X1 : Ext wo w1 := Ext.trans (by first | exact Ext.refl _ | exact (Ext.refl _).drew | exact ext_drewN _ _) hx1
         have d1 := X1.cell cO
         have d2 := Nat.lt_of_lt_of_le hbl X1.size
         obtain ⟨A4, c4, rfl, -⟩ := hu.rd.form
         have hu' : OwnI w1 wo.heap.size 3 (.slice A4 xs.length c4) xs := own_rebase hu (by simp))
      | (refine stepCh (u := .slice A4 xs.length c4) HC.out X1 hu' (Ext.new _ _) (rd_oneV _ _ _) rfl (.tmp 18) (.tmp 21) rfl (by rfl) (by rfl) hxl ?_
         intro L A5 c5 w2 hB2 HP HQ X8
         obtain ⟨q0, q2⟩ := blkc1 hB2
         have q4 := blk_lt hB2
         have X9 := HP.out.ext))
    all_goals
      go_wp2
      exact bodyPost_ret (results_none rfl _ _ _) rfl ⟨rfl, _, _, HP.out, HQ.out⟩
  | succ d ih =>
    intro xs f rv ov vs xss w hxd hf hC hlim
    have HIH := hd ih
    have HC := hd hC
    have hL : ¬ xs.length = many := by omega
    have h1 : xss.length ≤ limit := by omega
    have hx1000 : xs.length ≤ 1000 := by omega
    rw [chL_succ] at hlim ⊢
    have cO : w.cell? ⟨bo, 0, none⟩ = some ov := (blkc1 hC.blk).1
    have cL := hC.ext.cell hl
    have cM := hC.ext.cell hmm
    have hil : vs.length ≤ limit := by have := hC.inn.1; omega
    obtain ⟨-, Ao, co, rfl, -⟩ := own_rd hC.own
    obtain ⟨Ar, cr, rfl, -⟩ := OwnI.form hC.row
    have HAL := hd (accL_le n d xs f)
    have HAS := hd (accL_succ n d xs f)
    have HNN := hd hnn
    have C0 : Hid (ChS w0 w bo lo (growV bo bl bm bn) (.slice Ao vs.length co) (vs ++ []) (xss ++ accL n d xs f 0) (.slice Ar xs.length cr) xs) := hd (by rw [show accL n d xs f 0 = [] from rfl, List.append_nil, List.append_nil]; exact hC)
    have hT1 : ¬ limit < vs.length := by omega
    have hT2 : ¬ (limit : Int) < (vs.length : Int) := by omega
    have hT3 : ((xs.length : Int) == (many : Int)) = false := by simp; omega
    clear hC ih hl hmm hnn
    go_enter Try.func132, Try.ntmps132
    go_wp2
    clear cO cL cM
    go_loopw [9] (fun i wr => ∃ (t : Nat) (ov1 : Value) (ws : List Value), t ≤ n + 1 - f ∧ i = .int .i64 ((f : Int) + t) ∧ ChS w0 wr bo lo (growV bo bl bm bn) ov1 (vs ++ ws) (xss ++ accL n d xs f t) (.slice Ar xs.length cr) xs ∧ ChF w wr bo (.slice Ao vs.length co) ov1 (.slice Ar xs.length cr) ws) (fun i _ => n + 1 - (intOf i).toNat)
    case atStart => exact ⟨0, _, [], by omega, by simp, C0.out, ChF.refl _ _ _ _⟩
    case round =>
      clear C0
      obtain ⟨t, ov1, ws, ht, rfl, hC, hF⟩ := hrel
      have cN := hC.ext.cell HNN.out
      have HC1 := hd hC
      have HF1 := hd hF
      by_cases hlt : f + t ≤ n
      · have hlt' : (f : Int) + t ≤ n := by omega
        obtain ⟨cf, -⟩ := blkc1 hC.fbx
        have hlen : (xss ++ accL n d xs f t).length + (chL n d (xs ++ [((f + t : Nat) : Int)]) (f + t + 1)).length ≤ limit := by
          have h2 := HAL.out (t + 1) (n + 1 - f - (t + 1))
          rw [show t + 1 + (n + 1 - f - (t + 1)) = n + 1 - f from by omega, HAS.out, List.length_append] at h2
          rw [List.length_append]
          omega
        have HI := hd fun rv' w' h => HIH.out (xs ++ [((f + t : Nat) : Int)]) (f + t + 1) rv' ov1 (vs ++ ws) (xss ++ accL n d xs f t) w' (by rw [List.length_append, List.length_singleton]; omega) (by omega) h hlen
        have HAT := hd (HAS.out t)
        have e1 : ((f + t : Nat) : Int) = (f : Int) + t := by omega
        have e2 : ((f + t + 1 : Nat) : Int) = (f : Int) + t + 1 := by omega
        rw [e1] at HI HAT
        rw [e2] at HI
        have hwt : IntKind.i64.wrap ((f : Int) + t + 1) = (f : Int) + t + 1 := IntWalk.i64_in _ (by omega)
        have hge := enters_choices1
        unfold Enters at hge
        unfold growV at cf
        have hbl2 := blk_lt hC.fbx
        clear hC hF e1 e2 hlen hlim
        obtain ⟨wo, rfl⟩ : ∃ wo : World, wo = wr := ⟨_, rfl⟩
        go_wp2_with fail
        go_region_law (first
          | (refine stepFork (nb := wo.heap.size) HC1.out (by first | exact Ext.new _ _ | exact ((Ext.refl _).drew).alloc _ | exact (Ext.new _ _).drew) (by first | exact cell_oneV _ _ _ | exact cell_oneV (World.drew _) _ _) hx1000 rfl (.tmp 30) (.tmp 32) rfl (by rfl) (by rfl) ?_
             intro rv' w1 hS hsz HBK
             have HS := hd hS
             obtain ⟨cf1, -⟩ := blkc1 hS.fbx
             unfold growV at cf1)
          | (go_simp; (with_reducible refine (HI.out _ _ HS.out).mono ?_); rintro e w2 ⟨rfl, ov2, ws2, hC2, hF2⟩
             obtain ⟨hC3, hF3⟩ := HBK.out _ _ _ _ hC2 hF2
             have HC3 := hd hC3
             have HF3 := hd (HF1.out.trans hF3)))
        all_goals
          go_wp2
          go_roundw
          case rel => exact ⟨t + 1, ov2, ws ++ ws2, by omega, by go_num, by rw [HAT.out, ← List.append_assoc, ← List.append_assoc]; exact HC3.out, HF3.out⟩
          case measure => simp [intOf]; omega
      · have hge : ¬ (f : Int) + t ≤ n := by omega
        obtain rfl : t = n + 1 - f := by omega
        go_wp2
        exact bodyPost_end (results_none rfl _ _ _) rfl ⟨rfl, _, _, HC1.out, HF1.out⟩
end Go.Proofs.Ytjeeffmpfdhppaa
