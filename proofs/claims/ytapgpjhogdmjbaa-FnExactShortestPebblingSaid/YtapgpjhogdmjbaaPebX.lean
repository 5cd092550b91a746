/-
  Pebbling, a shortest one, in plain words, and what stands in the program's boxes. Condition: a valid graph.
-/
import Derived.Test.YtapgpjhogdmjbaaPebW
import Derived.Test.YtapgpjhogdmjbaaPmv
namespace Go.Proofs.Ytapgpjhogdmjbaa
open Go.RowKit Go.Shelf Peb
section
variable {ds : List (List Int)} {s P d k : Nat} {F : List Int}
/-- The first move to one that is d away. -/
def nxt (ds : List (List Int)) (s : Nat) (F : List Int) (d P : Nat) : Option (MvA ds ds.length false s P) := (mvU ds ds.length false s P (2 * ds.length)).find? (hitM F d)
def mvI {n : Nat} {rev : Bool} (m : MvA ds n rev s P) : Int × Int := ((m.1.1 : Int) + 1, (m.1.2.1 : Int))
/-- The moves of a pebbling. -/
def pathL (ds : List (List Int)) (s : Nat) (F : List Int) : Nat → Nat → List (Int × Int)
  | 0, _ => []
  | d + 1, P => match nxt ds s F d P with
    | some m => mvI m :: pathL ds s F d m.1.2.2
    | none => []
theorem pathL_len : ∀ d P, (pathL ds s F d P).length ≤ d
  | 0, _ => Nat.le_refl _
  | d + 1, P => by
    unfold pathL
    cases nxt ds s F d P with
    | none => exact Nat.zero_le _
    | some m => have := pathL_len d m.1.2.2; simp; omega
theorem pathL_step {m : MvA ds ds.length false s P} (h : nxt ds s F d P = some m) : pathL ds s F (d + 1) P = mvI m :: pathL ds s F d m.1.2.2 := by
  rw [pathL, h]
theorem mvU_pre : ∀ k j, k ≤ j → ∃ r, mvU ds ds.length false s P j = mvU ds ds.length false s P k ++ r
  | k, j, h => by
    induction h with
    | refl => exact ⟨[], (List.append_nil _).symm⟩
    | step _ ih => obtain ⟨r, hr⟩ := ih; exact ⟨r ++ (mvO ds ds.length false s P _).toList, by rw [mvU_succ, hr, List.append_assoc]⟩
/-- The first that hits is the next. -/
theorem nxt_of {pre : List (MvA ds ds.length false s P)} {m : MvA ds ds.length false s P} (hk : k ≤ 2 * ds.length) (he : mvU ds ds.length false s P k = pre ++ [m]) (hp : pre.any (hitM F d) = false) (hm : hitM F d m = true) : nxt ds s F d P = some m := by
  obtain ⟨r, hr⟩ := mvU_pre (ds := ds) (s := s) (P := P) k _ hk
  unfold nxt
  rw [hr, he, List.append_assoc, List.find?_append]
  have : pre.find? (hitM F d) = none := by
    rw [List.find?_eq_none]
    intro x hx hh
    rw [List.any_eq_false] at hp
    exact hp x hx hh
  rw [this]
  simp [hm]
theorem nxt_dst (hF : FinD (eP ds ds.length false s) (dP ds.length false s) (2 ^ ds.length) F) {m : MvA ds ds.length false s P} (hP : P < 2 ^ ds.length) (hm : hitM F d m = true) : m.1.2.2 < 2 ^ ds.length ∧ Dst (eP ds ds.length false s) (dP ds.length false s) (2 ^ ds.length) d m.1.2.2 := by
  obtain ⟨k1, k2, k3, k4, k5⟩ := okA_iff.1 m.2
  have hQ : m.1.2.2 < 2 ^ ds.length := by rw [k4]; exact flip_lt hP k2
  refine ⟨hQ, ?_⟩
  have hf : fa F m.1.2.2 = (d : Int) := of_decide_eq_true hm
  by_cases hd : ∃ e, Dst (eP ds ds.length false s) (dP ds.length false s) (2 ^ ds.length) e m.1.2.2
  · obtain ⟨e, he⟩ := hd
    have := hF.yes _ e hQ he
    have : e = d := by omega
    subst this; exact he
  · have := hF.no _ hQ fun e he => hd ⟨e, he⟩
    omega
/-- There is one. -/
theorem nxt_some (hF : FinD (eP ds ds.length false s) (dP ds.length false s) (2 ^ ds.length) F) (hD : Dst (eP ds ds.length false s) (dP ds.length false s) (2 ^ ds.length) (d + 1) P) : (mvU ds ds.length false s P (2 * ds.length)).any (hitM F d) = true := by
  obtain ⟨Q, h1, h2, h3⟩ := hD.pred
  obtain ⟨k1, k2, x, hx, rfl, hok⟩ := eP_iff.1 h2
  obtain ⟨j, hj, hB⟩ := mvB_ok.2 hok
  exact any_mvU.2 ⟨⟨(j, x, P ^^^ 2 ^ x), okA_iff.2 ⟨hj, hx, hB, rfl, k2⟩⟩, decide_eq_true (hF.yes _ d h1 h3)⟩
end
/-- The answer. -/
noncomputable def shoL (ds : List (List Int)) (s : Int) : List (Int × Int) :=
  open Classical in if h : timeB ds s false = true ∧ ∃ F, FinD (eP ds ds.length false s.toNat) (dP ds.length false s.toNat) (2 ^ ds.length) F then pathL ds s.toNat (Classical.choose h.2) (timeN ds s false).toNat 0 else []
theorem shoL_no {ds : List (List Int)} {s : Int} (h : timeB ds s false = false) : shoL ds s = [] := by
  unfold shoL
  rw [dif_neg (fun hh => by rw [h] at hh; cases hh.1)]
theorem shoL_of {ds : List (List Int)} {s : Nat} {F : List Int} (hb : timeB ds (s : Int) false = true) (h : FinD (eP ds ds.length false s) (dP ds.length false s) (2 ^ ds.length) F) : shoL ds (s : Int) = pathL ds s F (timeN ds (s : Int) false).toNat 0 := by
  have hex : ∃ F, FinD (eP ds ds.length false (s : Int).toNat) (dP ds.length false (s : Int).toNat) (2 ^ ds.length) F := ⟨F, by rw [Int.toNat_natCast]; exact h⟩
  unfold shoL
  rw [dif_pos ⟨hb, hex⟩]
  have hc := Classical.choose_spec hex
  have key : ∀ t G, t = s → FinD (eP ds ds.length false t) (dP ds.length false t) (2 ^ ds.length) G → pathL ds t G (timeN ds (s : Int) false).toNat 0 = pathL ds s F (timeN ds (s : Int) false).toNat 0 := fun t G ht hG => by
    subst ht
    rw [hG.uniq h]
  exact key _ _ (Int.toNat_natCast s) hc
/-! ### The boxes -/
theorem boxed_ne {W : World} {B B' : Nat} {t t' : TypeId} {v v' : Value} (h : Boxed W B t v) (h' : Boxed W B' t' v') (hte : t ≠ t') : B ≠ B' := fun e => by
  subst e
  have := (show W.heap[B]? = _ from h).symm.trans h'
  simp at this
  exact hte this.2
structure ShS (w wr : World) (A : Option Addr) (n c g M : Nat) (F : List Int) (B6 B8 B9 B10 d P : Nat) (out : List (Int × Int)) (hi : Nat) (dl : List Deferred) : Prop where
  x : Ext w wr
  b0 : Boxed wr w.heap.size 28 (.slice A n c)
  b6 : Boxed wr B6 3 (.int .i64 (d : Int))
  b8 : Boxed wr B8 44 (.slice (some ⟨g, 0, none⟩) M M)
  f : OwnI wr (B6 + 1) 3 (.slice (some ⟨g, 0, none⟩) M M) F
  fl : F.length = M
  bx : ∃ v, Boxed wr B9 34 v ∧ OwnM wr w.heap.size v out
  b10 : Boxed wr B10 55 (.int .u64 (P : Int))
  lo : w.heap.size ≤ B6 ∧ w.heap.size ≤ B8 ∧ w.heap.size ≤ B9 ∧ w.heap.size ≤ B10
  mks : Marks w.heap.size hi dl wr
section
variable {w wr wr' : World} {A : Option Addr} {n c g M B6 B8 B9 B10 d P hi : Nat} {F : List Int} {out : List (Int × Int)} {dl : List Deferred}
theorem ShS.ext (h : ShS w wr A n c g M F B6 B8 B9 B10 d P out hi dl) (hx : Ext wr wr') : ShS w wr' A n c g M F B6 B8 B9 B10 d P out hi dl := by
  obtain ⟨v, h1, h2⟩ := h.bx
  exact ⟨h.x.trans hx, hx.heap h.b0, hx.heap h.b6, hx.heap h.b8, own_ext h.f hx, h.fl, ⟨v, hx.heap h1, own_ext h2 hx⟩, hx.heap h.b10, h.lo, h.mks.others ⟨hx.size, fun k _ hk _ => hx.heap hk⟩⟩
theorem ShS.turn (h : ShS w wr A n c g M F B6 B8 B9 B10 d P out hi dl) {row : Option Nat} (hw : w.heap.size ≤ hi) (hg : wr.grownBy wr' row) (hr : ∀ k, row = some k → hi ≤ k ∧ ∃ o : Obj, wr.heap[k]? = some o ∧ o.isCells = false) : ShS w wr' A n c g M F B6 B8 B9 B10 d P out hi dl := by
  obtain ⟨v, h1, h2⟩ := h.bx
  have hne : ∀ {k : Nat} {cs : Array Value} {t : TypeId} {fr : Nat × Nat}, wr.heap[k]? = some (.cells cs t fr) → some k ≠ row := fun hk e => by
    obtain ⟨o, ho, hc⟩ := (hr _ e.symm).2
    rw [hk] at ho; cases ho; cases hc
  have hrow : ∀ {base size k : Nat} {e : TypeId} {v : Value} {xs : List Value}, wr.ownsRow base e size v k xs → wr'.ownsRow base e size v k xs := fun {base size k e v xs} ho => by
    refine ho.kept hg ?_
    rcases ho.2 with ⟨rfl, _⟩ | ⟨g, cap, cur, rfl, _, hgb, _⟩
    · exact .inl rfl
    · exact .inr fun e' => hne hgb e'
  exact ⟨h.x.grown hg h.x.size (fun k e => Nat.le_trans hw (hr k e).1), h.b0.kept hg (hne h.b0), h.b6.kept hg (hne h.b6), h.b8.kept hg (hne h.b8), hrow h.f, h.fl, ⟨v, h1.kept hg (hne h1), hrow h2⟩, h.b10.kept hg (hne h.b10), h.lo, h.mks.turn hg fun k e => (hr k e).1⟩
theorem ShS.top (h : ShS w wr A n c g M F B6 B8 B9 B10 d P out hi dl) : ShS w wr A n c g M F B6 B8 B9 B10 d P out wr.heap.size dl := ⟨h.x, h.b0, h.b6, h.b8, h.f, h.fl, h.bx, h.b10, h.lo, h.mks.top⟩
theorem ShS.more (h : ShS w wr A n c g M F B6 B8 B9 B10 d P out hi dl) {D : Nat} (hw : w.heap.size ≤ hi) (hD : hi ≤ D) (hk : wr.heap[D]? = some (.deferred (some []))) : ShS w wr A n c g M F B6 B8 B9 B10 d P out wr.heap.size (mkD D :: dl) := ⟨h.x, h.b0, h.b6, h.b8, h.f, h.fl, h.bx, h.b10, h.lo, h.mks.more hw hD hk⟩
theorem ShS.at_ (h : ShS w wr A n c g M F B6 B8 B9 B10 d P out hi dl) {i : Nat} (hi' : i < M) : wr.cell? ⟨g, i, none⟩ = some (.int .i64 (fa F i)) := by
  have hl : i < F.length := by rw [h.fl]; exact hi'
  obtain ⟨a, e, hc⟩ := RdI.at_ (hd (OwnI.rd h.f)) hl
  injection e with e
  subst e
  have he : (⟨g, 0, none⟩ : Addr).add i = ⟨g, i, none⟩ := by
    unfold Addr.add
    split
    · rename_i h; rw [h]
    · simp
  rw [he] at hc
  have e2 : fa F i = F[i] := by simp [fa, List.getD_eq_getElem?_getD, hl]
  rw [e2]; exact hc
/-- The position's box is written. -/
theorem ShS.put10 (h : ShS w wr A n c g M F B6 B8 B9 B10 d P out hi dl) (Q : Nat) : wr.frozen? ⟨B10, 0, none⟩ = false ∧ ShS w (wr.setCell ⟨B10, 0, none⟩ (.int .u64 (Q : Int))) A n c g M F B6 B8 B9 B10 d Q out hi dl := by
  obtain ⟨v, h1, h2⟩ := h.bx
  have hg := grownBy_setCell' wr B10 (.int .u64 (Q : Int))
  refine ⟨h.b10.frozen, h.x.setCell (p := ⟨B10, 0, none⟩) h.lo.2.2.2 _, h.b0.other (boxed_ne h.b0 h.b10 (by decide)) _, h.b6.other (boxed_ne h.b6 h.b10 (by decide)) _, h.b8.other (boxed_ne h.b8 h.b10 (by decide)) _, World.ownsRow.kept h.f hg (.inr (Ne.symm (h.b10.not_row (by decide) h.f))), h.fl,
    ⟨v, h1.other (boxed_ne h1 h.b10 (by decide)) _, World.ownsRow.kept h2 hg (.inr (Ne.symm (h.b10.not_row (by decide) h2)))⟩, h.b10.set _, h.lo, h.mks.others (KeepsOthers.setCell _ _ _)⟩
/-- The number's box is written. -/
theorem ShS.put6 (h : ShS w wr A n c g M F B6 B8 B9 B10 d P out hi dl) (e : Nat) : wr.frozen? ⟨B6, 0, none⟩ = false ∧ ShS w (wr.setCell ⟨B6, 0, none⟩ (.int .i64 (e : Int))) A n c g M F B6 B8 B9 B10 e P out hi dl := by
  obtain ⟨v, h1, h2⟩ := h.bx
  have hg := grownBy_setCell' wr B6 (.int .i64 (e : Int))
  have hgb := (own_blocks h.f g rfl).1
  refine ⟨h.b6.frozen, h.x.setCell (p := ⟨B6, 0, none⟩) h.lo.1 _, h.b0.other (boxed_ne h.b0 h.b6 (by decide)) _, h.b6.set _, h.b8.other (boxed_ne h.b8 h.b6 (by decide)) _, World.ownsRow.kept h.f hg (.inr (fun e => by have : g = B6 := Option.some.inj e; omega)), h.fl,
    ⟨v, h1.other (boxed_ne h1 h.b6 (by decide)) _, World.ownsRow.kept h2 hg (.inr (Ne.symm (h.b6.not_row (by decide) h2)))⟩, h.b10.other (boxed_ne h.b10 h.b6 (by decide)) _, h.lo, h.mks.others (KeepsOthers.setCell _ _ _)⟩
/-- A new box for the position. -/
theorem ShS.new10 (h : ShS w wr A n c g M F B6 B8 B9 B10 d P out hi dl) : ShS w (wr.alloc (.cells #[.int .u64 (P : Int)] 55)) A n c g M F B6 B8 B9 wr.heap.size d P out hi dl := by
  have h' := h.ext (Ext.new wr (.cells #[.int .u64 (P : Int)] 55))
  exact ⟨h'.x, h'.b0, h'.b6, h'.b8, h'.f, h'.fl, h'.bx, Boxed.new _ _ _, ⟨h.lo.1, h.lo.2.1, h.lo.2.2.1, h.x.size⟩, h'.mks⟩
/-- One more move. -/
theorem ShS.push (h : ShS w wr A n c g M F B6 B8 B9 B10 d P out hi dl) {m : Int × Int} {v : Value} {tmp : Obj} (hv : Boxed wr B9 34 v) (ho : OwnM wr w.heap.size v out) {v' : Value} {w1 : World} (ho1 : OwnM w1 w.heap.size v' (out ++ [m])) (hg : (wr.alloc tmp).grownBy w1 v.ownBlock) :
    Boxed w1 B9 34 v ∧ ShS w (w1.setCell ⟨B9, 0, none⟩ v') A n c g M F B6 B8 B9 B10 d P (out ++ [m]) hi dl ∧ KeepsOthers wr (w1.setCell ⟨B9, 0, none⟩ v') := by
  obtain ⟨a1, a2, a3, a4, a5⟩ := hv.appended (by decide) ho h.x.size h.lo.2.2.1 ho1 hg
  have hg0 : wr.grownBy w1 v.ownBlock := grown_trans (grown_ext (Ext.new wr tmp) _) hg
  have hs := grownBy_setCell' w1 B9 v'
  have keepB : ∀ {B : Nat} {t : TypeId} {u : Value}, Boxed wr B t u → t ≠ 52 → B ≠ B9 → Boxed (w1.setCell ⟨B9, 0, none⟩ v') B t u := fun {B t u} hb ht hne => ((hb.kept hg0 (hb.not_row ht ho)).other hne _)
  have hf1 : OwnI w1 (B6 + 1) 3 (.slice (some ⟨g, 0, none⟩) M M) F := World.ownsRow.kept h.f hg0 (by
    rcases ho.2 with ⟨rfl, _⟩ | ⟨g2, cap, cur, rfl, _, hgb, _⟩
    · exact .inr (fun e => by cases e)
    · exact .inr (fun e => by
        obtain rfl : g = g2 := Option.some.inj e
        rcases h.f.2 with ⟨e0, _⟩ | ⟨g3, cap3, cur3, e3, _, hgb3, _⟩
        · cases e0
        · injection e3 with e3
          injection e3 with e3
          injection e3 with e3
          subst e3
          have := hgb.symm.trans hgb3
          simp at this))
  refine ⟨a1, ⟨Below.trans h.x a5, keepB h.b0 (by decide) (boxed_ne h.b0 hv (by decide)), keepB h.b6 (by decide) (boxed_ne h.b6 hv (by decide)), keepB h.b8 (by decide) (boxed_ne h.b8 hv (by decide)), World.ownsRow.kept hf1 hs (.inr (Ne.symm (a1.not_row (by decide) hf1))), h.fl, ⟨v', a2, a3⟩, keepB h.b10 (by decide) (boxed_ne h.b10 hv (by decide)), h.lo, h.mks.others a4⟩, a4⟩
end
end Go.Proofs.Ytapgpjhogdmjbaa
