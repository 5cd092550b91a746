/-
  Pebbling, the program's search: what stands in the boxes inside a round, and the marks that ranges over a function leave behind. Condition: a valid graph.
-/
import Derived.Test.YtapgpjhogdmjbaaPebL
import Derived.Sort.QuietIn
namespace Go.Proofs.Ytapgpjhogdmjbaa
open Go.RowKit Go.Shelf Peb
/-- A mark among the calls that are put off. -/
def mkD (D : Nat) : Deferred := { target := .collected D, args := #[] }
/-- The marks that ranges over a function have left so far: each its own block, still open. -/
def Marks (lo hi : Nat) (dl : List Deferred) (W : World) : Prop := ∃ Ds : List Nat, dl = Ds.map mkD ∧ Ds.Nodup ∧ ∀ D ∈ Ds, lo ≤ D ∧ D < hi ∧ W.heap[D]? = some (.deferred (some []))
section
variable {lo hi : Nat} {dl : List Deferred} {W W' : World}
theorem Marks.nil : Marks lo hi [] W := ⟨[], rfl, List.nodup_nil, fun D h => by cases h⟩
theorem Marks.others (h : Marks lo hi dl W) (k : KeepsOthers W W') : Marks lo hi dl W' := by
  obtain ⟨Ds, h1, h2, h3⟩ := h
  exact ⟨Ds, h1, h2, fun D hD => ⟨(h3 D hD).1, (h3 D hD).2.1, k.same D _ (h3 D hD).2.2 rfl⟩⟩
theorem Marks.top (h : Marks lo hi dl W) : Marks lo W.heap.size dl W := by
  obtain ⟨Ds, h1, h2, h3⟩ := h
  exact ⟨Ds, h1, h2, fun D hD => ⟨(h3 D hD).1, (Array.getElem?_eq_some_iff.1 (h3 D hD).2.2).1, (h3 D hD).2.2⟩⟩
theorem Marks.turn (h : Marks lo hi dl W) {row : Option Nat} (hg : W.grownBy W' row) (hr : ∀ r, row = some r → hi ≤ r) : Marks lo hi dl W' := by
  obtain ⟨Ds, h1, h2, h3⟩ := h
  refine ⟨Ds, h1, h2, fun D hD => ⟨(h3 D hD).1, (h3 D hD).2.1, ?_⟩⟩
  exact (hg.block D (Array.getElem?_eq_some_iff.1 (h3 D hD).2.2).1 (fun e => by have := hr D e.symm; have := (h3 D hD).2.1; omega)).trans (h3 D hD).2.2
theorem Marks.more (h : Marks lo hi dl W) {D : Nat} (hl : lo ≤ hi) (hD : hi ≤ D) (hk : W.heap[D]? = some (.deferred (some []))) : Marks lo W.heap.size (mkD D :: dl) W := by
  obtain ⟨Ds, h1, h2, h3⟩ := h
  refine ⟨D :: Ds, by rw [h1]; rfl, List.nodup_cons.2 ⟨fun hm => by have := (h3 D hm).2.1; omega, h2⟩, fun E hE => ?_⟩
  rcases List.mem_cons.1 hE with rfl | hE
  · exact ⟨by omega, (Array.getElem?_eq_some_iff.1 hk).1, hk⟩
  · exact ⟨(h3 E hE).1, (Array.getElem?_eq_some_iff.1 (h3 E hE).2.2).1, (h3 E hE).2.2⟩
/-- A function leaves through its marks. -/
theorem Marks.leaves {fn : Func} {tmps : Array Value} {R : Ending → World → Prop} {m : Nat} {T : World → Prop} (hT : ∀ W, T W → LeavesInM Fence.wide m Try.prog fn tmps R [] .returning W)
    (hput : ∀ W D, lo ≤ D → W.heap[D]? = some (.deferred (some [])) → T W → T (W.putObj D (.deferred none))) (h : Marks lo hi dl W) (h0 : T W) : LeavesInM Fence.wide m Try.prog fn tmps R dl .returning W := by
  obtain ⟨Ds, rfl, h2, h3⟩ := h
  induction Ds generalizing W with
  | nil => exact hT W h0
  | cons D Ds ih =>
    have hD := h3 D (by simp)
    have h2' := List.nodup_cons.1 h2
    refine ⟨by simp, .inl ⟨D, _, rfl, run_takeDeferred hD.2.2, ?_⟩⟩
    refine ih (hput W D hD.1 hD.2.2 h0) h2'.2 fun E hE => ?_
    have hE3 := h3 E (by simp [hE])
    exact ⟨hE3.1, hE3.2.1, (World.putObj_heap_other (fun e => h2'.1 (by rw [← e]; exact hE))).trans hE3.2.2⟩
end
/-- The state inside a round of the search: the distances, the round's number, what has been found. -/
structure LgS (w wr : World) (A : Option Addr) (n c g M : Nat) (F : List Int) (Bf B9 r Bx : Nat) (fs : List Int) (hi : Nat) (dl : List Deferred) : Prop where
  l : LfS w wr A n c g M F Bf
  b9 : Boxed wr B9 3 (.int .i64 ((r : Int) + 1))
  l9 : Bf < B9
  bx : ∃ v, Boxed wr Bx 44 v ∧ OwnI wr (B9 + 1) 3 v fs
  lx : B9 < Bx
  mks : Marks w.heap.size hi dl wr
section
variable {w wr wr' : World} {A : Option Addr} {n c g M Bf B9 r Bx hi : Nat} {F fs : List Int} {dl : List Deferred}
theorem LgS.ext (h : LgS w wr A n c g M F Bf B9 r Bx fs hi dl) (hx : Ext wr wr') : LgS w wr' A n c g M F Bf B9 r Bx fs hi dl := by
  obtain ⟨v, h1, h2⟩ := h.bx
  exact ⟨h.l.ext hx, hx.heap h.b9, h.l9, ⟨v, hx.heap h1, own_ext h2 hx⟩, h.lx, h.mks.others ⟨hx.size, fun k _ hk _ => hx.heap hk⟩⟩
theorem LgS.turn (h : LgS w wr A n c g M F Bf B9 r Bx fs hi dl) {row : Option Nat} (hw : w.heap.size ≤ hi) (hg : wr.grownBy wr' row) (hr : ∀ k, row = some k → hi ≤ k ∧ ∃ o : Obj, wr.heap[k]? = some o ∧ o.isCells = false) : LgS w wr' A n c g M F Bf B9 r Bx fs hi dl := by
  obtain ⟨v, h1, h2⟩ := h.bx
  have hne : ∀ {k : Nat} {cs : Array Value} {t : TypeId} {fr : Nat × Nat}, wr.heap[k]? = some (.cells cs t fr) → some k ≠ row := fun hk e => by
    obtain ⟨o, ho, hc⟩ := (hr _ e.symm).2
    rw [hk] at ho; cases ho; cases hc
  have hrow : ∀ {base size k : Nat} {e : TypeId} {v : Value} {xs : List Value}, wr.ownsRow base e size v k xs → wr'.ownsRow base e size v k xs := fun {base size k e v xs} ho => by
    refine ho.kept hg ?_
    rcases ho.2 with ⟨rfl, _⟩ | ⟨g, cap, cur, rfl, _, hgb, _⟩
    · exact .inl rfl
    · exact .inr fun e' => hne hgb e'
  refine ⟨⟨h.l.x.grown hg h.l.x.size (fun k e => Nat.le_trans hw (hr k e).1), ?_, h.l.bf.kept hg (hne h.l.bf), hrow h.l.f, h.l.fl, h.l.gb⟩, h.b9.kept hg (hne h.b9), h.l9, ⟨v, h1.kept hg (hne h1), hrow h2⟩, h.lx, h.mks.turn hg fun k e => (hr k e).1⟩
  exact (hg.block _ (Array.getElem?_eq_some_iff.1 h.l.b0).1 (hne h.l.b0)).trans h.l.b0
theorem LgS.top (h : LgS w wr A n c g M F Bf B9 r Bx fs hi dl) : LgS w wr A n c g M F Bf B9 r Bx fs wr.heap.size dl := ⟨h.l, h.b9, h.l9, h.bx, h.lx, h.mks.top⟩
theorem LgS.more (h : LgS w wr A n c g M F Bf B9 r Bx fs hi dl) {D : Nat} (hw : w.heap.size ≤ hi) (hD : hi ≤ D) (hk : wr.heap[D]? = some (.deferred (some []))) : LgS w wr A n c g M F Bf B9 r Bx fs wr.heap.size (mkD D :: dl) := ⟨h.l, h.b9, h.l9, h.bx, h.lx, h.mks.more hw hD hk⟩
/-- One more is found. -/
theorem LgS.push (h : LgS w wr A n c g M F Bf B9 r Bx fs hi dl) {x : Int} {v : Value} {tmp : Obj} (hv : Boxed wr Bx 44 v) (ho : OwnI wr (B9 + 1) 3 v fs) {v' : Value} {w1 : World} (ho1 : OwnI w1 (B9 + 1) 3 v' (fs ++ [x])) (hg : (wr.alloc tmp).grownBy w1 v.ownBlock) :
    Boxed w1 Bx 44 v ∧ LgS w (w1.setCell ⟨Bx, 0, none⟩ v') A n c g M F Bf B9 r Bx (fs ++ [x]) hi dl ∧ KeepsOthers wr (w1.setCell ⟨Bx, 0, none⟩ v') := by
  have hl9 := h.l9
  have hlx := h.lx
  obtain ⟨a1, a2, a3, a4, a5⟩ := hv.appended (by decide) ho (show B9 + 1 ≤ wr.heap.size from h.b9.lt) (show B9 + 1 ≤ Bx from hlx) ho1 hg
  exact ⟨a1, ⟨h.l.below (Below.mono a5 (by omega)), (a5.block B9 (Nat.lt_succ_self _)).trans h.b9, hl9, ⟨v', a2, a3⟩, hlx, h.mks.others a4⟩, a4⟩
end
/-! ### A drawn region inside a round -/
def noDefer (ops : Array Oper) : Bool := ops.all fun o => match o.op with | .defer _ => false | _ => true
theorem noDefer_at {ops : Array Oper} (h : noDefer ops = true) {i : Nat} {o : Oper} (ho : ops[i]? = some o) : ∀ c, o.op ≠ .defer c := by
  intro c e
  have h2 := Array.all_eq_true'.1 h o (Array.mem_of_getElem? ho)
  rw [e] at h2
  cases h2
theorem upon_inRound {F : Fence} {m : Nat} {P : Program} {o : Oper} {a : Act} {K : Act → World → Prop} {Q : Exit → Act → World → Prop} (l : Nat) (r : Result Next) (h : o.uponIn F m P a K Q r) : o.uponIn (F.inRound l) m P a K Q r := by
  cases r with
  | ok x w => cases x <;> exact h
  | halt x w => cases x <;> exact h
theorem op_inRound {F : Fence} (hro : F.round = none) (l : Nat) {m : Nat} {P : Program} {ops : Array Oper} {Q : Exit → Act → World → Prop} {i : Nat} {K : Act → World → Prop} {a : Act} {w : World} (hd : noDefer ops = true) (h : wpOpIn F m P ops Q i K a w) : wpOpIn (F.inRound l) m P ops Q i K a w := by
  unfold wpOpIn at *
  cases ho : ops[i]? with
  | none => rw [ho] at h; exact h
  | some o =>
    rw [ho] at h
    dsimp only at h ⊢
    by_cases hw : Region.wanted o (yielded ops a.tmps) = true
    · rw [if_pos hw] at h ⊢
      refine ⟨h.1, ?_⟩
      have h2 := h.2
      rw [hro, Oper.semAt_none] at h2
      rw [Fence.inRound_round, Oper.semAt_some l a.eval o (noDefer_at hd ho)]
      exact upon_inRound l _ h2
    · rw [if_neg hw] at h ⊢
      exact h
theorem any_inRound {F : Fence} (hro : F.round = none) (l : Nat) {m : Nat} {P : Program} {md : Region.Mode} {ops : Array Oper} {Q : Exit → Act → World → Prop} (hd : noDefer ops = true) : ∀ (fuel : Nat) (listed : Array Bool) (a : Act) (w : World), wpAnyIn F m P md ops Q fuel listed a w → wpAnyIn (F.inRound l) m P md ops Q fuel listed a w
  | 0, _, _, _, h => h
  | fuel + 1, _, _, _, h => ⟨h.1, fun i hi => op_inRound hro l hd (wpOpIn_mono (fun a' w' hk => any_inRound hro l hd fuel _ a' w' hk) (h.2 i hi))⟩
/-- A drawn region that only reads, inside a round: one walk in the order of the text. -/
theorem region_inRound {F : Fence} (hro : F.round = none) {lr m : Nat} {P : Program} {id : Nat} {Q : Exit → Act → World → Prop} {a : Act} {w : World} {l : List Oper} (hm : P.follows .mixedOrders = true) (hB : Region.lexB .any l.toArray = true) (hd : noDefer l.toArray = true)
    (h : wpQuietIn F m P l.toArray (fun w' => ∃ n, w' = w.drewN n) (fun a' => ∀ w', (∃ n, w' = w.drewN n) → Q .normal a' w') l a) : (Code.region id l.toArray true).wpIn (F.inRound lr) m P Q a w := by
  have hB2 := hB
  simp only [Region.lexB, Bool.and_eq_true] at hB2
  refine wpIn_region_any hm (any_inRound hro lr hd _ _ _ _ (wpAnyIn_of_quiet (C := fun w' => ∃ n, w' = w.drewN n) (Q := fun a' => ∀ w', (∃ n, w' = w.drewN n) → Q .normal a' w') hro (fun _ w' hw' h => h w' hw') _ _ _ _ ⟨1, rfl⟩ ?_))
  have := wpAnyQIn_lex (F := F) (n := m) (P := P) (C := fun w' => ∃ n, w' = w.drewN n) (Q := fun a' => ∀ w', (∃ n, w' = w.drewN n) → Q .normal a' w') (md := .any) hB2.1 l 0 (Array.replicate l.toArray.size false) a (by simp) (by simpa using hB2.2) h
  simpa using this
theorem filt_succ (i : Nat) (p : Nat → Bool) : ((List.range (i + 1)).filter p).map Int.ofNat = ((List.range i).filter p).map Int.ofNat ++ (if p i then [(i : Int)] else []) := by
  rw [List.range_succ, List.filter_append, List.map_append]
  cases h : p i <;> simp [h]
theorem hit_no {ds : List (List Int)} {rev : Bool} {s r P : Nat} {F : List Int} (h : ¬ fa F P < 0 ∨ ¬ cnt P ≤ s) : hitB ds rev s F r P = false := by
  unfold hitB
  rcases h with h | h
  · rw [decide_eq_false h]; rfl
  · rw [decide_eq_false h, Bool.false_and, Bool.and_false]
theorem hit_here {ds : List (List Int)} {rev : Bool} {s r P : Nat} {F : List Int} (h1 : fa F P < 0) (h2 : cnt P ≤ s) : hitB ds rev s F r P = (mvU ds ds.length rev s P (2 * ds.length)).any (hitM F r) := by
  unfold hitB
  rw [decide_eq_true h1, decide_eq_true h2, Bool.true_and, Bool.true_and]
theorem own_down {w : World} {b b' : Nat} {e : TypeId} {s n : Nat} {v : Value} {cs : List Value} (h : Own w b e s v n cs) (hb : b' ≤ b) : Own w b' e s v n cs := by
  refine ⟨h.1, ?_⟩
  rcases h.2 with h0 | ⟨g, cap, cur, hv, hbb, rest⟩
  · exact .inl h0
  · exact .inr ⟨g, cap, cur, hv, Nat.le_trans hb hbb, rest⟩
theorem own_setLow {w : World} {b g i : Nat} {e : TypeId} {s n : Nat} {v x : Value} {cs : List Value} (h : Own w b e s v n cs) (hg : g < b) : Own (w.setCell ⟨g, i, none⟩ x) b e s v n cs := by
  refine World.ownsRow.kept h (grown_set (grown_refl _ _) _ _ : w.grownBy (w.setCell ⟨g, i, none⟩ x) (some g)) ?_
  rcases h.2 with ⟨rfl, _⟩ | ⟨g2, cap, cur, rfl, hb2, _, _⟩
  · exact .inl rfl
  · refine .inr fun e => ?_
    have : g2 = g := Option.some.inj e
    omega
theorem dst_le {E : Nat → Nat → Bool} {D : Nat → Bool} {M d P : Nat} (hP : P < M) (h : Dst E D M d P) : d ≤ M := by
  obtain ⟨l, h1, h2, h3⟩ := chain (I := fun _ => True) (fun _ _ _ _ _ _ => trivial) d P hP trivial h
  have := nodup_le l (List.range M) h2 fun x hx => List.mem_range.2 (h3 x hx).1
  rw [List.length_range] at this
  omega
section
variable {ds : List (List Int)} {rev : Bool} {s r M : Nat} {F : List Int}
theorem hit_mem (hM : 2 ^ ds.length = M) (h : Rnd (eP ds ds.length rev s) (dP ds.length rev s) (2 ^ ds.length) r F) {P : Nat} : P ∈ (List.range M).filter (hitB ds rev s F r) ↔ P < M ∧ Dst (eP ds ds.length rev s) (dP ds.length rev s) (2 ^ ds.length) (r + 1) P := by
  rw [List.mem_filter, List.mem_range]
  constructor
  · rintro ⟨h1, h2⟩; exact ⟨h1, (hit_iff (by rw [hM]; exact h1) h).1 h2⟩
  · rintro ⟨h1, h2⟩; exact ⟨h1, (hit_iff (by rw [hM]; exact h1) h).2 h2⟩
theorem round_last (hM : 2 ^ ds.length = M) (h : Rnd (eP ds ds.length rev s) (dP ds.length rev s) (2 ^ ds.length) r F) (h0 : (List.range M).filter (hitB ds rev s F r) = []) : FinD (eP ds ds.length rev s) (dP ds.length rev s) M F := by
  rw [← hM]
  refine h.last fun P hP hD => ?_
  have := (hit_mem hM h).2 ⟨by rw [← hM]; exact hP, hD⟩
  rw [h0] at this
  cases this
theorem round_more (hM : 2 ^ ds.length = M) (h : Rnd (eP ds ds.length rev s) (dP ds.length rev s) (2 ^ ds.length) r F) (h0 : (List.range M).filter (hitB ds rev s F r) ≠ []) : r + 1 ≤ M := by
  obtain ⟨P, hP⟩ := List.exists_mem_of_ne_nil _ h0
  obtain ⟨h1, h2⟩ := (hit_mem hM h).1 hP
  rw [hM] at h2
  exact dst_le h1 h2
theorem round_next (hM : 2 ^ ds.length = M) (h : Rnd (eP ds ds.length rev s) (dP ds.length rev s) (2 ^ ds.length) r F) :
    Rnd (eP ds ds.length rev s) (dP ds.length rev s) (2 ^ ds.length) (r + 1) (putF F ((r : Int) + 1) ((List.range M).filter (hitB ds rev s F r))) := by
  have hl : ∀ Q ∈ (List.range M).filter (hitB ds rev s F r), Q < F.length := fun Q hQ => by rw [h.fl, hM]; exact ((hit_mem hM h).1 hQ).1
  refine h.next (by rw [putF_len]; exact h.fl) (fun P hP hD => ?_) fun P hP hD => ?_
  · rw [putF_fa _ _ _ hl, if_pos ((hit_mem hM h).2 ⟨by rw [← hM]; exact hP, hD⟩)]
  · rw [putF_fa _ _ _ hl, if_neg fun hm => hD ((hit_mem hM h).1 hm).2]
end
theorem LgS.put {w wr : World} {A : Option Addr} {n c g M Bf B9 r Bx hi : Nat} {F fs : List Int} {dl : List Deferred} (h : LgS w wr A n c g M F Bf B9 r Bx fs hi dl) {i : Nat} (hi0 : i < M) (x : Int) :
    (∃ u0, wr.cell? ⟨g, i, none⟩ = some u0) ∧ wr.frozen? ⟨g, i, none⟩ = false ∧ LgS w (wr.setCell ⟨g, i, none⟩ (.int .i64 x)) A n c g M (F.set i x) Bf B9 r Bx fs hi dl := by
  obtain ⟨h1, h2, h3⟩ := h.l.put hi0 x
  obtain ⟨v, hv, ho⟩ := h.bx
  have hg : wr.grownBy (wr.setCell ⟨g, i, none⟩ (.int .i64 x)) (some g) := grown_set (grown_refl _ _) _ _
  have hgb := h.l.gb
  have hl9 := h.l9
  have hlx := h.lx
  refine ⟨h1, h2, h3, h.b9.kept hg (fun e => by have := Option.some.inj e; omega), hl9, ⟨v, hv.kept hg (fun e => by have := Option.some.inj e; omega), ho.kept hg ?_⟩, hlx, h.mks.others (KeepsOthers.setCell _ _ _)⟩
  rcases ho.2 with ⟨rfl, _⟩ | ⟨g2, cap, cur, rfl, hb2, _, _⟩
  · exact .inl rfl
  · refine .inr fun e => ?_
    have : g2 = g := Option.some.inj e
    omega
theorem moves_stops (m : Nat) (hm : 1 ≤ m) (B : Nat) (ds : List (List Int)) (s P : Nat) (rev : Bool) (hg : goodD ds = true) (hb : Bd_Dag ds) (hP : P < 2 ^ ds.length) (A : Option Addr) (c : Nat) (wm : World) (hR : Rd_Dag wm (.agg #[.slice A ds.length c]) ds)
    (hB0 : wm.heap[B]? = some (.cells #[.slice A ds.length c] 28 (0, 0))) (hB1 : wm.heap[B + 1]? = some (.cells #[.int .u64 (P : Int)] 55 (0, 0))) (hB2 : wm.heap[B + 1 + 1]? = some (.cells #[.int .i64 (s : Int)] 3 (0, 0))) (hB3 : wm.heap[B + 1 + 1 + 1]? = some (.cells #[.bool rev] 4 (0, 0))) :
    SeqStopsK Fence.wide m Try.prog 46 #[.pointer (some ⟨B, 0, none⟩), .pointer (some ⟨B + 1, 0, none⟩), .pointer (some ⟨B + 1 + 1 + 1, 0, none⟩), .pointer (some ⟨B + 1 + 1, 0, none⟩)] (mvE (ds := ds) (n := ds.length) (rev := rev) (s := s) (P := P)) (Below wm.heap.size)
      (fun ys => ys = mvU ds ds.length rev s P (2 * ds.length)) (fun pre => ∃ k, k ≤ 2 * ds.length ∧ pre = mvU ds ds.length rev s P k) (2 * ds.length) wm :=
  fun l J Jx W hW hJ _ hY h0 => moves1_in m hm l B ds s P rev hg hb hP A c wm hR hB0 hB1 hB2 hB3 J Jx (fun xs W1 W2 h hx => hJ xs W1 W2 none h (ext_grown hx none) (fun r e => by cases e)) hY W hW h0
end Go.Proofs.Ytapgpjhogdmjbaa
