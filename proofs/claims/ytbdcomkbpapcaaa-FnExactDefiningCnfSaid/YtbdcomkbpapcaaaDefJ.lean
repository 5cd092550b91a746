import Derived.Test.YtbdcomkbpapcaaaDefI
import Derived.Test.YtbdcomkbpapcaaaPtrC
import Derived.Test.YtbdcomkbpapcaaaMapB
import Derived.StillTailTactics
/-
  DefiningCnf: the program's function. Conditions: none but a text's length.
-/

namespace Go.Proofs.Ytbdcomkbpapcaaa
open Go.RowKit Go.Sort Go.Maps Seed
theorem own_map {w : World} {lo b s n : Nat} {e : TypeId} {v : Value} {cs : List Value} (h : Own w lo e s v n cs) {es} {clock : Nat} (hb : w.heap[b]? = some (.map es clock)) : ∀ g, v.ownBlock = some g → some b = some g → False := by
  intro g hg e2
  have e2 := Option.some.inj e2
  subst e2
  rcases h.2 with ⟨rfl, _⟩ | ⟨g', cap, cur, rfl, _, hg', _⟩
  · cases hg
  · have : b = g' := (Option.some.inj hg).symm
    subst this
    rw [hb] at hg'
    cases hg'
/-- The formula that is being made, and the map of the numbers. -/
structure DW (W0 w : World) (bx bm lo : Nat) (V : Int) (ov : Value) (cls : List (List Int)) (acc : List (Bs × Int)) : Prop where
  fam : FamB W0 w bx 46 V lo ov cls
  map : OwnM w bm acc.length acc
  bm0 : W0.heap.size ≤ bm
section
variable {W0 w w' : World} {bx bm lo : Nat} {V : Int} {ov : Value} {cls : List (List Int)} {acc : List (Bs × Int)}
theorem DW.obj (h : DW W0 w bx bm lo V ov cls acc) : ∃ es clock, w.heap[bm]? = some (.map es clock) := by
  obtain ⟨es, clock, hb, -⟩ := h.map
  exact ⟨es, clock, hb⟩
theorem DW.ne (h : DW W0 w bx bm lo V ov cls acc) : bm ≠ bx := fun e => by
  obtain ⟨es, clock, hb⟩ := h.obj
  have := h.fam.blk
  rw [← e, hb] at this
  cases this
theorem DW.on (h : DW W0 w bx bm lo V ov cls acc) (hx : Ext w w') : DW W0 w' bx bm lo V ov cls acc :=
  ⟨h.fam.on hx, World.ownsMap.kept h.map (grown_ext hx none) (by simp), h.bm0⟩
theorem DW.num (h : DW W0 w bx bm lo V ov cls acc) (m : Int) : DW W0 (w.setCell ⟨bx, 0, none⟩ (.int .i64 m)) bx bm lo m ov cls acc := by
  have hgs : w.grownBy (w.setCell ⟨bx, 0, none⟩ (.int .i64 m)) (some bx) := grown_set (grown_refl w (some bx)) 0 _
  have hF := h.fam
  exact ⟨⟨blk2_set0 hF.blk, (hF.own.box hF.blk (by decide) (by decide) hgs).hi_le hgs.size, ext_appS (v := .slice (some ⟨bx, 0, none⟩) 0 0) hF.ext hgs (fun g hg' => by obtain rfl : bx = g := Option.some.inj hg'; exact hF.bx0), hF.bx0, hF.lo0, Nat.le_trans hF.low hgs.size⟩,
    World.ownsMap.kept h.map hgs (fun e => h.ne (Option.some.inj e)), h.bm0⟩
theorem DW.upd (h : DW W0 w bx bm lo V ov cls acc) {acc' : List (Bs × Int)} (hm : OwnM w' bm acc'.length acc') (hg : w.grownBy w' (some bm)) : DW W0 w' bx bm lo V ov cls acc' := by
  have hF := h.fam
  obtain ⟨es, clock, hb⟩ := h.obj
  refine ⟨⟨(hg.block bx (blk_lt hF.blk) (fun e => h.ne (Option.some.inj e).symm)).trans hF.blk, ?_, ext_appS (v := .slice (some ⟨bm, 0, none⟩) 0 0) hF.ext hg (fun g hg' => by obtain rfl : bm = g := Option.some.inj hg'; exact h.bm0), hF.bx0, hF.lo0, Nat.le_trans hF.low hg.size⟩, hm, h.bm0⟩
  obtain ⟨vs, a1, a2, a3⟩ := hF.own
  have hh : OwnSS w' lo w.heap.size 57 3 ov cls := ⟨vs, own_grown a1 hg (own_map a1 hb), a2, a3.1, fun i x xs hx hxs => ⟨own_grown (a3.2.1 i x xs hx hxs).1 hg (own_map (a3.2.1 i x xs hx hxs).1 hb), (a3.2.1 i x xs hx hxs).2⟩, a3.2.2⟩
  exact hh.hi_le hg.size
/-- The same, and the list of the parts beside it. -/
def DX (W0 w : World) (bx bm lo : Nat) (V : Int) (ov : Value) (cls : List (List Int)) (acc : List (Bs × Int)) (lo2 : Nat) (lv : Value) (ys : List Pf) : Prop :=
  DW W0 w bx bm lo V ov cls acc ∧ OwnPf w lo2 lv ys
variable {lo2 : Nat} {lv ov' : Value} {ys : List Pf} {cls' : List (List Int)} {wa w1 : World}
theorem DX.on (h : DX W0 w bx bm lo V ov cls acc lo2 lv ys) (hx : Ext w w') : DX W0 w' bx bm lo V ov cls acc lo2 lv ys := ⟨h.1.on hx, own_ext h.2 hx⟩
theorem DX.num (h : DX W0 w bx bm lo V ov cls acc lo2 lv ys) (m : Int) : DX W0 (w.setCell ⟨bx, 0, none⟩ (.int .i64 m)) bx bm lo m ov cls acc lo2 lv ys :=
  ⟨h.1.num m, own_grown h.2 (grown_set (grown_refl w (some bx)) 0 _) (fun g e1 e2 => by
    have e3 := Option.some.inj e2
    subst e3
    rcases h.2.2 with ⟨e4, _⟩ | ⟨g', cap, cur, e4, _, hg', _⟩
    · rw [e4] at e1; cases e1
    · rw [e4] at e1
      have e5 : g' = bx := Option.some.inj e1
      subst e5
      have hb := h.1.fam.blk
      rw [hg'] at hb
      injection hb with hb
      injection hb with _ hT _
      exact absurd hT (by decide))⟩
theorem DX.upd (h : DX W0 w bx bm lo V ov cls acc lo2 lv ys) {acc' : List (Bs × Int)} (hm : OwnM w' bm acc'.length acc') (hg : w.grownBy w' (some bm)) : DX W0 w' bx bm lo V ov cls acc' lo2 lv ys := by
  obtain ⟨es, clock, hb⟩ := h.1.obj
  exact ⟨h.1.upd hm hg, own_grown h.2 hg (own_map h.2 hb)⟩
theorem DX.push (h : DX W0 w bx bm lo V ov cls acc lo2 lv ys) (ha : Ext w wa) (hg : wa.grownBy w1 ov.ownBlock) (hF : FamB W0 (w1.setCell ⟨bx, 1, none⟩ ov') bx 46 V lo ov' cls') : DX W0 (w1.setCell ⟨bx, 1, none⟩ ov') bx bm lo V ov' cls' acc lo2 lv ys := by
  have ha2 := h.on ha
  obtain ⟨es, clock, hb⟩ := ha2.1.obj
  obtain ⟨vs, a1, -, -⟩ := ha2.1.fam.own
  have hne : bm ≠ bx := h.1.ne
  have hm1 : OwnM w1 bm acc.length acc := World.ownsMap.kept ha2.1.map hg (fun e => own_map a1 hb bm e.symm rfl)
  have hl1 : OwnPf w1 lo2 lv ys := own_grown ha2.2 hg (fun g e1 e2 => own_ne ha2.2 a1 (by decide) e1 e2)
  have hgs : w1.grownBy (w1.setCell ⟨bx, 1, none⟩ ov') (some bx) := grown_set (grown_refl w1 (some bx)) 1 ov'
  have hbx : w1.heap[bx]? = some (.cells #[.int .i64 V, ov] 46 (0, 0)) := h.1.fam.blk1 (by decide) ha hg
  refine ⟨⟨hF, World.ownsMap.kept hm1 hgs (fun e => hne (Option.some.inj e)), h.1.bm0⟩, own_grown hl1 hgs (fun g e1 e2 => ?_)⟩
  have e3 := Option.some.inj e2
  subst e3
  rcases hl1.2 with ⟨e4, _⟩ | ⟨g', cap, cur, e4, _, hg', _⟩
  · rw [e4] at e1; cases e1
  · rw [e4] at e1
    have e5 : g' = bx := Option.some.inj e1
    subst e5
    rw [hg'] at hbx
    injection hbx with hb2
    injection hb2 with _ hT _
    exact absurd hT (by decide)
end
theorem enc_at {i : Nat} (hi : i < 6) : Utf8.encode ((97 : Int) + (i : Int)) = ⟨#[UInt8.ofNat (97 + i)]⟩ := by
  have : i = 0 ∨ i = 1 ∨ i = 2 ∨ i = 3 ∨ i = 4 ∨ i = 5 := by omega
  rcases this with rfl | rfl | rfl | rfl | rfl | rfl
  all_goals first | rfl | decide | (show Utf8.encode _ = _; kernel_rfl)
theorem letT_long {t : Bs} (h : 2 ≤ t.length) : letT t = false := by
  match t, h with
  | a :: b :: r, _ => rfl
theorem letB_opF {y : Fm} (hw : WfF y = true) : letB (opF y) = letT (txt y) := by
  cases y with
  | leaf c => rfl
  | neg a =>
    have := txt_pos a
    rw [letT_long (by simp [txt]; omega)]
    rfl
  | bin o a b =>
    rw [letT_long (by simp [txt]; omega)]
    rcases op_cases o with ⟨_, hc | hc | hc⟩ | ⟨h, _⟩
    · have e : o = 38 := u8_eq hc
      rw [e]; rfl
    · have e : o = 124 := u8_eq hc
      rw [e]; rfl
    · have e : o = 62 := u8_eq hc
      rw [e]; rfl
    · rw [(wf_bin hw).1] at h; cases h
theorem rawD_len (y : Fm) (v x z : Int) : (rawD y v x z).length ≤ 3 := by
  cases y with
  | leaf c => unfold rawD; simp only; split <;> simp
  | neg a => simp [rawD]
  | bin o a b => unfold rawD; simp only; split <;> (try split) <;> simp
theorem run_len {f : Fm} (hw : WfF f = true) {k : Nat} (h : k ≤ (partsB f).length) : (runD (partsT f) k).1.length ≤ 6 + k ∧ (runD (partsT f) k).2.length ≤ 3 * k := by
  rw [runD_eq hw k h]
  have h1 := othK_len f k
  have h2 := allD_len (othB f) (othK f k).length
  refine ⟨?_, ?_⟩
  · show (initA ++ numL (othK f k)).length ≤ _
    rw [List.length_append, initA_len, numL_len]; omega
  · show (allD (othB f) (othK f k).length).length ≤ _
    omega
theorem run_kids {f : Fm} (hw : WfF f = true) {k : Nat} (h : k < (partsB f).length) (hT : k < (partsT f).length) {y : Fm} (hy : (partsT f)[k] = y) (hl : letT (txt y) = false) {acc : List (Bs × Int)} (ha : (runD (partsT f) k).1 = acc) :
    ∀ t, (t = kA y ∨ t = kB y) → (t = [] → kN (acc ++ [(txt y, (acc.length : Int) + 1)]) t = 0) ∧ (t ≠ [] → 1 ≤ kN (acc ++ [(txt y, (acc.length : Int) + 1)]) t ∧ kN (acc ++ [(txt y, (acc.length : Int) + 1)]) t < (acc.length : Int) + 1) := by
  have hpt := partsT_mem hw (List.getElem_mem h)
  have hky : (partsT f)[k] = treeB (partsB f)[k] := by simp [partsT]
  rw [hky] at hy
  subst hy
  rw [hpt.1] at hl ⊢
  rw [runD_eq hw k (by omega)] at ha
  have ha : initA ++ numL (othK f k) = acc := ha
  have hS : othB f = othK f k ++ [(partsB f)[k]] ++ ((partsB f).drop (k + 1)).filter fun t => !letT t := by
    have := othK_pre f (k + 1)
    rw [othK_succ h, hl] at this
    simpa using this
  have hN : (othK f k ++ [(partsB f)[k]]).Nodup := by
    have := othK_nodup f (k + 1)
    rw [othK_succ h, hl] at this
    simpa using this
  have eL : (acc.length : Int) + 1 = ((othK f k).length : Int) + 7 := by
    rw [← ha, List.length_append, initA_len, numL_len]; omega
  have eA : acc ++ [((partsB f)[k], ((othK f k).length : Int) + 7)] = initA ++ numL (othK f k ++ [(partsB f)[k]]) := by rw [numL_snoc, ← ha, List.append_assoc]
  rw [eL, eA]
  obtain ⟨ka, kb⟩ := kid_part hw (List.getElem_mem h)
  intro t ht
  have hk : t = [] ∨ (t ∈ partsB f ∧ befB t (partsB f)[k] = true) := by
    rcases ht with rfl | rfl
    · exact ka
    · exact kb
  obtain ⟨e1, e2⟩ := kid_eq h [(partsB f)[k]] hk hN ⟨_, hS⟩ (by simpa using hl)
  refine ⟨fun h0 => by subst h0; rfl, fun h0 => ?_⟩
  rw [e1]
  exact e2 h0
theorem lk_all {f : Fm} (_ : WfF f = true) : lkB (initA ++ numL (othB f)) (txt f) = varN (othB f) (txt f) := by
  have hn : (othB f).Nodup := by rw [← othK_all]; exact othK_nodup f _
  unfold varN
  cases hl : letT (txt f) with
  | true =>
    have hm : txt f ∉ othB f := by rw [← othK_all]; exact oth_let hl
    rw [(lk_num initA _ _ _ rfl).1 hm, lk_init hl, if_pos rfl]
  | false =>
    have hm : txt f ∈ othB f := List.mem_filter.2 ⟨mem_partsB.2 ⟨f, self_subs f, rfl⟩, by rw [hl]; rfl⟩
    rw [(lk_num initA _ _ _ rfl).2 hn hm, if_neg (by decide)]
theorem varN_bd {f : Fm} (hl : (othB f).length ≤ 80) : -1000 ≤ varN (othB f) (txt f) ∧ varN (othB f) (txt f) ≤ 1000 := by
  unfold varN
  split
  · rename_i hh; have := letN_bd hh; omega
  · by_cases hm : txt f ∈ othB f
    · have := idxN_bd (othB f) (txt f) 7 hm; omega
    · have e := idxN_app (othB f) [] (txt f) 7
      rw [List.append_nil, if_neg hm] at e
      rw [e]
      show -1000 ≤ (0 : Int) ∧ (0 : Int) ≤ 1000
      decide
def Kid (w6 : World) (bm : Nat) (va : Value) (x : Int) : Prop := (va = .pointer none ∧ x = 0) ∨ ∃ ba sa, va = .pointer (some ⟨ba, 0, none⟩) ∧ w6.cell? ⟨ba, 3, none⟩ = some (.string sa) ∧ (Instr.lookup 87 (.map (some bm)) (.string sa) false).run Try.prog w6 = .ok (.int .i64 x) w6
theorem kid_of {w1 w6 : World} {bx bm lo : Nat} {V x : Int} {ov va : Value} {cls : List (List Int)} {acc : List (Bs × Int)} {g : Fm} (hD : DW w1 w6 bx bm lo V ov cls acc) (hg : RdF 92 w1 g va) (hl : (txt g).length ≤ 80) (hx : kN acc (txt g) = x) : Kid w6 bm va x := by
  obtain ⟨ba, _, _, rfl, hba⟩ := hg.head
  obtain ⟨l0, l1, l2, l3⟩ := blk4F (hD.fam.ext.heap hba)
  have hlk := lk_run hD.map (strF g) (by rw [strF_size]; omega)
  rw [strF_list] at hlk
  refine .inr ⟨ba, strF g, rfl, l3, ?_⟩
  rw [hlk]
  unfold kN at hx
  rw [if_neg (fun e => by have := txt_pos g; rw [e] at this; simp at this)] at hx
  rw [hx]
theorem kids_of {w1 w6 : World} {bx bm lo b b2 : Nat} {V x z : Int} {ov va vb q0 q3 : Value} {cls : List (List Int)} {acc : List (Bs × Int)} {y : Fm} (hn : RdF 92 w1 y (encP (b, y))) (heb : encP (b, y) = .pointer (some ⟨b2, 0, none⟩)) (hB : w1.heap[b2]? = some (.cells #[q0, va, vb, q3] 92 (0, 0)))
    (hD : DW w1 w6 bx bm lo V ov cls acc) (hl : (txt y).length ≤ 80) (hx : kN acc (kA y) = x) (hz : kN acc (kB y) = z) : Kid w6 bm va x ∧ Kid w6 bm vb z := by
  cases y with
  | leaf c =>
    obtain ⟨b3, eb, hb⟩ := hn
    obtain rfl : b2 = b3 := by have := heb.symm.trans eb; simpa using this
    rw [hB] at hb
    injection hb with hb
    injection hb with hb _ _
    have e1 : va = .pointer none := by simpa using congrArg (fun a => a[1]!) hb
    have e2 : vb = .pointer none := by simpa using congrArg (fun a => a[2]!) hb
    exact ⟨.inl ⟨e1, by rw [← hx]; exact if_pos rfl⟩, .inl ⟨e2, by rw [← hz]; exact if_pos rfl⟩⟩
  | neg y1 =>
    obtain ⟨b3, v3, eb, hb, hk⟩ := hn
    obtain rfl : b2 = b3 := by have := heb.symm.trans eb; simpa using this
    rw [hB] at hb
    injection hb with hb
    injection hb with hb _ _
    have e1 : va = v3 := by simpa using congrArg (fun a => a[1]!) hb
    have e2 : vb = .pointer none := by simpa using congrArg (fun a => a[2]!) hb
    subst e1
    exact ⟨kid_of hD hk (by simp [txt] at hl; omega) hx, .inl ⟨e2, by rw [← hz]; exact if_pos rfl⟩⟩
  | bin o y1 y2 =>
    obtain ⟨b3, v3, v4, eb, hb, hk, hk2⟩ := hn
    obtain rfl : b2 = b3 := by have := heb.symm.trans eb; simpa using this
    rw [hB] at hb
    injection hb with hb
    injection hb with hb _ _
    have e1 : va = v3 := by simpa using congrArg (fun a => a[1]!) hb
    have e2 : vb = v4 := by simpa using congrArg (fun a => a[2]!) hb
    subst e1 e2
    exact ⟨kid_of hD hk (by simp [txt] at hl; omega) hx, kid_of hD hk2 (by simp [txt] at hl; omega) hz⟩
/-- The blocks of a window are kept, and the list that grows has none of them. -/
structure Win (W w : World) (lo : Nat) (ov : Value) : Prop where
  win : ∀ b, lo ≤ b → b < W.heap.size → w.heap[b]? = W.heap[b]?
  own : ∀ g, ov.ownBlock = some g → g < lo ∨ W.heap.size ≤ g
  le : W.heap.size ≤ w.heap.size
theorem Win.start {W : World} {lo : Nat} {ov : Value} (h : ∀ g, ov.ownBlock = some g → g < lo) : Win W W lo ov := ⟨fun _ _ _ => rfl, fun g hg => .inl (h g hg), Nat.le_refl _⟩
theorem ext_size {w w' : World} (h : Ext w w') : w.heap.size ≤ w'.heap.size := h.size
theorem ext_block {w w' : World} (h : Ext w w') {b : Nat} (hb : b < w.heap.size) : w'.heap[b]? = w.heap[b]? := (grown_ext h none).block b hb (by simp)
theorem Win.on {W w w' : World} {lo : Nat} {ov : Value} (h : Win W w lo ov) (hx : Ext w w') : Win W w' lo ov :=
  ⟨fun b h1 h2 => (ext_block hx (Nat.lt_of_lt_of_le h2 h.le)).trans (h.win b h1 h2), h.own, Nat.le_trans h.le hx.size⟩
theorem Win.push {W w wa w1 : World} {lo bx : Nat} {ov v' x : Value} (h : Win W w lo ov) (ha : Ext w wa) (hg : wa.grownBy w1 ov.ownBlock) (hv : v'.ownBlock = ov.ownBlock ∨ v'.ownBlock = some wa.heap.size) (hb : bx < lo) : Win W (w1.setCell ⟨bx, 1, none⟩ x) lo v' := by
  have h2 := h.on ha
  have hgs : w1.grownBy (w1.setCell ⟨bx, 1, none⟩ x) (some bx) := grown_set (grown_refl w1 (some bx)) 1 x
  refine ⟨fun b h3 h4 => ?_, fun g hg' => ?_, Nat.le_trans h2.le (Nat.le_trans hg.size hgs.size)⟩
  · rw [hgs.block b (Nat.lt_of_lt_of_le h4 (Nat.le_trans h2.le hg.size)) (fun e => by have := Option.some.inj e; omega), hg.block b (Nat.lt_of_lt_of_le h4 h2.le) (fun e => by rcases h.own b e.symm with h5 | h5 <;> omega)]
    exact h2.win b h3 h4
  · rcases hv with hv | hv
    · rw [hv] at hg'; exact h.own g hg'
    · rw [hv] at hg'
      have e := Option.some.inj hg'
      exact .inr (by rw [← e]; exact h2.le)
theorem appFZ2 {w0 w wa : World} {bx lo lo2 : Nat} {T : TypeId} {n : Int} {ov src : Value} {xss : List (List Int)} {zs : List Row} {ops : Array Oper} {rest : List Oper} {o : Oper} {a : Act} {Q : Exit → Act → World → Prop} (h : FamB w0 w bx T n lo ov xss) (hT : T ≠ 57) (hT2 : T ≠ 3) (ha : Ext w wa) (hz : RowsZ wa lo2 wa.heap.size zs) (hl : w.heap.size ≤ lo2) (hsrc : Rd wa 1 src zs.length (zs.map Prod.fst)) (hgd : o.guard = none) (s x : Operand)
    (ho : o.op = .call { callee := .builtin .append, args := #[s, x], argTypes := #[22, 22] })
    (hs : a.eval s = ov) (hx : a.eval x = src) (hn : xss.length + zs.length ≤ 2147483648)
    (k : ∀ L A c w1, Hid (L = xss.length + zs.length) → w1.heap[bx]? = some (.cells #[.int .i64 n, ov] T (0, 0)) → Hid (FamB w0 (w1.setCell ⟨bx, 1, none⟩ (.slice A L c)) bx T n lo (.slice A L c) (xss ++ zs.map Prod.snd)) → Ext w0 w1 → wa.grownBy w1 ov.ownBlock → ((Value.slice A L c).ownBlock = ov.ownBlock ∨ (Value.slice A L c).ownBlock = some wa.heap.size) → wpList Try.prog ops Q rest (a.put o.dst (.slice A L c)) w1) :
    wpList Try.prog ops Q (o :: rest) a wa := by
  obtain ⟨ys, hys, hO, hZ⟩ := h.own.rows
  have hlen : xss.length = ys.length := by rw [hys, List.length_map]
  refine appZ wa (own_ext hO ha) hsrc hz.one' hgd s x ho hs hx (by omega) (Nat.le_trans h.low ha.size) fun v' w1 k1 k2 k3 => ?_
  obtain ⟨A, c, rfl, -⟩ := OutZ.form k1
  have hB := h.blk1 hT ha k2
  have hR : RowsZ wa lo wa.heap.size (ys ++ zs) := (hZ.ext ha).cat hz (Nat.le_trans h.low hl) hl ha.size
  have hR1 : RowsZ w1 lo w1.heap.size (ys ++ zs) := (hR.grownO (own_ext hO ha) k2).hi_size
  have hF := h.put hT hT2 ha (hR1.ssz k1) k2
  rw [List.map_append, ← hys] at hF
  exact k _ A c w1 (hd (by rw [List.length_append, hlen])) hB (hd hF) (ext_appS (h.ext.trans ha) k2 h.own_low) k2 k3
theorem FamB.ov_lt {w0 w : World} {bx lo : Nat} {T : TypeId} {n : Int} {ov : Value} {xss : List (List Int)} (h : FamB w0 w bx T n lo ov xss) : ∀ g, ov.ownBlock = some g → g < w.heap.size := by
  obtain ⟨vs, a1, -, -⟩ := h.own
  intro g hg
  exact (own_blocks a1 g hg).2
set_option maxRecDepth 100000 in
set_option maxHeartbeats 12800000 in
theorem i_DefiningCnf (s : ByteArray) (w : World) (_ : s.size ≤ 1048576) : Calls Try.prog 30 #[.string s] w (RetN w (defV s) (defB s)) := by
  obtain ⟨W1, hW1⟩ : ∃ W1, W1 = w.alloc (.cells #[.int .i64 0, .slice none 0 0] 46) := ⟨_, rfl⟩
  have X0 : Hid (Ext w W1) := hd (by rw [hW1]; exact Ext.new _ _)
  have R0 : Hid (W1.heap[w.heap.size]? = some (.cells #[.int .i64 0, .slice none 0 0] 46)) := hd (by rw [hW1]; exact blk_new _ rfl)
  have HW1 := hd hW1
  have hz0 : w.heap.size + 1 = W1.heap.size := by rw [hW1]; simp
  clear hW1
  cases hg : goodF s with
  | none =>
    have HG := hd hg
    have HDB : Hid (defB s = false) := hd (by unfold defB; rw [hg])
    clear hg
    go_enter Try.func30, Try.ntmps30
    go_wp2_with fail
    rw [← HW1.out]
    refine (rp_no (i_parse s _) HG).mono ?_
    rintro e w1 ⟨rfl, hx⟩
    have B3 := hd (hx.heap R0.out)
    obtain ⟨p0, p1⟩ := blk2 B3.out
    obtain ⟨f0, f1⟩ := blk2f B3.out
    have f2 := blk_lt B3.out
    have X5 := hd (X0.out.trans hx)
    have X4 := hd (ext_set (i := 1) (ext_set (i := 0) X5.out (g := w.heap.size) (Nat.le_refl _) (.int .i64 0)) (g := w.heap.size) (Nat.le_refl _) (.slice none 0 0))
    have HC := hd (blk2_set (x' := .int .i64 0) (y' := .slice none 0 0) B3.out)
    clear hx
    go_wp2
    obtain ⟨q0, q1⟩ := blk2 HC.out
    exact bodyPost_ret (v := .tuple #[.agg #[.int .i64 0, .slice none 0 0], .bool false]) (by first | (simp [results, Try.results30, go_sem, q0, q1]; done) | (simp [results, Try.results30, go_sem, p0, p1]; done)) rfl (defV_zero HDB.out (by first | exact X4.out | exact X5.out))
  | some f =>
    have HG := hd hg
    have HDB : Hid (defB s = decide ((othB f).length ≤ 6)) := hd (by unfold defB; rw [hg])
    have HDV : Hid ((othB f).length ≤ 6 → defV s = defF f) := hd fun h => by unfold defV; rw [hg]; simp only; rw [if_pos h]
    obtain ⟨h1, h2, h3⟩ := goodF_iff.1 hg
    have hl : (txt f).length ≤ 80 := by rw [← h2]; simpa using h1
    have hmm := @run_makeMap Try.prog
    clear hg
    go_enter Try.func30, Try.ntmps30
    go_wp2_with fail
    rw [← HW1.out]
    refine (rp_yes (i_parse s _) HG).mono ?_
    rintro e w1 ⟨v, rfl, hv, hx⟩
    have D0 : Hid (DW w1 ((w1.alloc (.cells #[.int .i64 6, .slice none 0 0] 46)).alloc (.map #[] 0)) w1.heap.size (w1.heap.size + 1) w1.heap.size 6 (.slice none 0 0) [] (initA.take 0)) := hd ⟨⟨blk_old (blk_new _ rfl), ownSS_nil _ _ _ _ _, (Ext.new _ _).alloc _, Nat.le_refl _, Nat.le_refl _, by simp; omega⟩, by have := World.ownsMap_made (P := Try.prog) (k := 9) (R := plainElem (H := Unit) Try.prog 3) (w1.alloc (.cells #[.int .i64 6, .slice none 0 0] 46)); simp only [World.size_alloc] at this; exact this, by omega⟩
    have HLT : Hid (∀ (w' : World) (i : Nat), i ≤ 6 → Calls Try.prog 59 #[.int .u8 ((97 : Int) + (i : Int))] w' (Ret w' (.bool (decide (i < 6))))) := hd fun w' i hi => by
      have key : ((UInt8.ofNat (97 + i)).toNat : Int) = (97 : Int) + (i : Int) := by rw [UInt8.toNat_ofNat_of_lt' (by show _ < 256; omega)]; omega
      have := i_isLetter (UInt8.ofNat (97 + i)) w'
      rw [key] at this
      have e : letB (UInt8.ofNat (97 + i)) = decide (i < 6) := by
        have : i = 0 ∨ i = 1 ∨ i = 2 ∨ i = 3 ∨ i = 4 ∨ i = 5 ∨ i = 6 := by omega
        rcases this with rfl | rfl | rfl | rfl | rfl | rfl | rfl <;> decide
      rw [e] at this
      exact this
    have HIN : Hid (∀ i : Nat, i < 6 → initA.take (i + 1) = initA.take i ++ [([UInt8.ofNat (97 + i)], (i : Int) + 1)]) := hd fun i hi => by
      have : i = 0 ∨ i = 1 ∨ i = 2 ∨ i = 3 ∨ i = 4 ∨ i = 5 := by omega
      rcases this with rfl | rfl | rfl | rfl | rfl | rfl <;> decide
    have HV := hd hv
    have HX := hd hx
    clear hv hx
    go_wp2_with fail
    go_loopw [8] (fun cv wr => ∃ i : Nat, i ≤ 6 ∧ cv = .int .u8 ((97 : Int) + (i : Int)) ∧ DW w1 wr w1.heap.size (w1.heap.size + 1) w1.heap.size 6 (.slice none 0 0) [] (initA.take i)) (fun cv _ => 103 - (intOf cv).toNat)
    case atStart => exact ⟨0, by omega, by go_num, D0.out⟩
    case round =>
      clear D0
      obtain ⟨i, hi, rfl, hD⟩ := hrel
      have HD := hd hD
      have HLI := hd (HLT.out wr i hi)
      clear hD
      by_cases hlt : i < 6
      · rw [decide_eq_true hlt] at HLI
        go_wp2_with fail
        refine (HLI.out).mono ?_
        rintro e w2 ⟨rfl, rfl⟩
        have HKE := hd (enc_at hlt)
        obtain ⟨kb, hkb⟩ : ∃ kb, Utf8.encode ((97 : Int) + (i : Int)) = kb := ⟨_, rfl⟩
        have hkl : kb.data.toList = [UInt8.ofNat (97 + i)] := by rw [← hkb, HKE.out]
        have hks : kb.size = 1 := by
          have : kb.data.toList.length = 1 := by rw [hkl]; rfl
          rw [← this]; rfl
        have HKY : Hid (keyOf Try.prog 9 (.string kb) = some (.string [UInt8.ofNat (97 + i)])) := hd (by
          have := Go.WideMaps.keyOf_string_mk (P := Try.prog) Try.underlying9 (s := kb) (by unfold maxLen; omega)
          rw [hkl] at this
          exact this)
        have HI1 := hd (HIN.out i hlt)
        have hal : (initA.take i).length ≤ 6 := by rw [List.length_take]; exact Nat.min_le_right _ _
        clear hkl hks
        go_wp2_with (at_mapUpdate; refine wpList_mapUpdate_own _ rfl _ _ _ 87 rfl 9 3 (string_keyed Try.underlying9) Try.underlying87 _ (w1.heap.size + 1) (initA.take i).length _ rfl HD.out.map (by unfold maxLen; omega) _ _ _ rfl rfl HKY.out _ [] (plainElem_int Try.underlying3 (by simp [Lit.wf, IntKind.min, IntKind.max, IntKind.signed, IntKind.bits]; omega)) ?_; intro w6 hm6 hg6)
        rw [show (97 : Int) + (i : Int) - 97 + 1 = (i : Int) + 1 from by omega] at hm6
        have hD6 : DW w1 w6 w1.heap.size (w1.heap.size + 1) w1.heap.size 6 (.slice none 0 0) [] (initA.take (i + 1)) := HD.out.upd (by
          rw [HI1.out, List.length_append]
          show OwnM _ _ ((initA.take i).length + 1) _
          unfold OwnM
          rw [dM_snoc]
          exact hm6) hg6
        go_roundw
        case rel => exact ⟨i + 1, by omega, by go_num, hD6⟩
        case measure => simp [intOf]; omega
      · rw [decide_eq_false hlt] at HLI
        go_wp2_with fail
        refine (HLI.out).mono ?_
        rintro e w2 ⟨rfl, rfl⟩
        have HD6 : Hid (DW w1 wr w1.heap.size (w1.heap.size + 1) w1.heap.size 6 (.slice none 0 0) [] initA) := hd (by
          have e6 : i = 6 := by omega
          have := HD.out
          rw [e6] at this
          exact this)
        clear HD hlt HLI
        go_wp2_with fail
        refine (i_parts f v wr w1 (hd HD6.out.fam.ext) HV.out hl).mono ?_
        rintro e w2 ⟨u, ys, rfl, hy, hm, hn, hu, hx⟩
        have hyl : ys.length ≤ 80 := by
          have e := congrArg List.length hy
          rw [List.length_map] at e
          have := partsB_len f
          omega
        have hpT : partsT f = ys.map (·.2) := by
          unfold partsT
          rw [← hy, List.map_map]
          exact List.map_congr_left fun y hy2 => treeB_txt (subs_wf f h3 _ (hm y hy2))
        have HPT := hd hpT
        have HMEM := hd hm
        have HN1 := hd hn
        have hform : RdPf w2 u ys := own_rd hu
        obtain ⟨A, c, rfl, hc1, hc2, -⟩ := hform.form
        have DX0 : Hid (DX w1 w2 w1.heap.size (w1.heap.size + 1) w1.heap.size ((runD (ys.map (·.2)) 0).1.length : Int) (.slice none 0 0) (runD (ys.map (·.2)) 0).2 (runD (ys.map (·.2)) 0).1 wr.heap.size (.slice A ys.length c) ys) := hd ⟨HD6.out.on hx, hu⟩
        have HYT : Hid ((ys.map (·.2)).length = ys.length) := hd (List.length_map ..)
        have HRL : Hid (∀ k : Nat, k ≤ ys.length → (runD (ys.map (·.2)) k).1.length ≤ 6 + k ∧ (runD (ys.map (·.2)) k).2.length ≤ 3 * k) := hd fun k hk => by
          rw [← hpT]
          exact run_len h3 (by have e := congrArg List.length hpT; rw [partsT_len, List.length_map] at e; omega)
        have HRK : Hid (∀ (k : Nat) (h : k < ys.length), letT (txt ys[k].2) = false → ∀ t, (t = kA ys[k].2 ∨ t = kB ys[k].2) → (t = [] → kN ((runD (ys.map (·.2)) k).1 ++ [(txt ys[k].2, ((runD (ys.map (·.2)) k).1.length : Int) + 1)]) t = 0) ∧ (t ≠ [] → 1 ≤ kN ((runD (ys.map (·.2)) k).1 ++ [(txt ys[k].2, ((runD (ys.map (·.2)) k).1.length : Int) + 1)]) t ∧ kN ((runD (ys.map (·.2)) k).1 ++ [(txt ys[k].2, ((runD (ys.map (·.2)) k).1.length : Int) + 1)]) t < ((runD (ys.map (·.2)) k).1.length : Int) + 1)) := hd fun k hk hl => by
          have e := congrArg List.length hpT
          rw [partsT_len, List.length_map] at e
          exact run_kids (k := k) (y := ys[k].2) h3 (by omega) (by rw [partsT_len]; omega) (by simp [hpT]) hl (by rw [hpT])
        have HEND : Hid (runD (ys.map (·.2)) ys.length = (initA ++ numL (othB f), allD (othB f) (othB f).length)) := hd (by
          have e := congrArg List.length hpT
          rw [partsT_len, List.length_map] at e
          have := runD_eq h3 _ (Nat.le_refl (partsB f).length)
          rw [othK_all, e, hpT] at this
          exact this)
        have HSW := hd (subs_wf f h3)
        have HST := hd (fun g hg => subs_txt f g hg)
        have hlw : w1.heap.size ≤ wr.heap.size := HD6.out.fam.ext.size
        clear hpT hy hm hn hu hx hform HD6
        unfold maxLen at hc2
        obtain ⟨lo2, hlo2⟩ : ∃ lo2, lo2 = wr.heap.size := ⟨_, rfl⟩
        rw [← hlo2] at DX0 hlw
        clear hlo2
        go_wp2_with fail
        go_loopw [41] (fun i wr => ∃ (k : Nat) (ov : Value), k ≤ ys.length ∧ i = .int .i64 (k : Int) ∧ DX w1 wr w1.heap.size (w1.heap.size + 1) w1.heap.size ((runD (ys.map (·.2)) k).1.length : Int) ov (runD (ys.map (·.2)) k).2 (runD (ys.map (·.2)) k).1 lo2 (.slice A ys.length c) ys) (fun i _ => ys.length - (intOf i).toNat)
        case atStart => exact ⟨0, _, by omega, rfl, DX0.out⟩
        case round =>
          clear DX0
          obtain ⟨k, ov, hk, rfl, hD⟩ := hrel
          have HD := hd hD
          have HR : Hid (RdPf wr (.slice A ys.length c) ys) := hd (own_rd hD.2)
          have HXR := hd hD.1.fam.ext
          clear hD
          by_cases hlt : k < ys.length
          · obtain ⟨a, rfl, hc0⟩ := RdPf.at_ HR hlt
            have HND := hd (HN1.out _ (List.getElem_mem hlt))
            have hsub := HMEM.out _ (List.getElem_mem hlt)
            have hwf := HSW.out _ hsub
            have htl := HST.out _ hsub
            obtain ⟨hal, hcl⟩ := HRL.out k hk
            have HKD := hd (fun (hT : letT (txt ys[k].2) = false) => HRK.out k hlt hT)
            have HRS : Hid (runD (ys.map (·.2)) (k + 1) = stepD (runD (ys.map (·.2)) k) ys[k].2) := hd (by
              rw [runD_succ _ (by rw [HYT.out]; exact hlt), List.getElem_map])
            clear hsub
            generalize ys[k] = y at *
            obtain ⟨b, y⟩ := y
            dsimp only at hwf htl HRS HND
            obtain ⟨acc, hacc⟩ : ∃ acc, (runD (ys.map (·.2)) k).1 = acc := ⟨_, rfl⟩
            obtain ⟨cls, hcls⟩ : ∃ cls, (runD (ys.map (·.2)) k).2 = cls := ⟨_, rfl⟩
            rw [hacc, hcls] at HD
            rw [hacc] at hal HKD
            rw [hcls] at hcl
            have hrk : runD (ys.map (·.2)) k = (acc, cls) := by rw [← hacc, ← hcls]
            rw [hrk] at HRS
            clear hacc hcls hrk
            obtain ⟨b2, va, vb, eb, hb⟩ := HND.out.head
            have hlb := letB_opF hwf
            have HIL := hd (fun w' => i_isLetter (opF y) w')
            rw [hlb] at HIL
            clear hlb
            cases hlet : letT (txt y) with
            | true =>
              rw [hlet] at HIL
              have HRS2 : Hid (runD (ys.map (·.2)) (k + 1) = (acc, cls)) := hd (by rw [HRS.out]; unfold stepD; rw [if_pos hlet])
              obtain ⟨m0, m1, m2, m3⟩ := blk4F (HXR.out.heap hb)
              have hc1 : wr.cell? (a.add k) = some (.pointer (some ⟨b2, 0, none⟩)) := by rw [← eb]; exact hc0
              clear hlet HRS hb eb hc0
              go_wp2_with fail
              refine (HIL.out _).mono ?_
              rintro e w3 ⟨rfl, rfl⟩
              go_wp2
              go_roundw
              case rel => exact ⟨k + 1, ov, by omega, by go_num, by rw [HRS2.out]; exact HD.out⟩
              case measure => simp [intOf]; omega
            | false =>
              rw [hlet] at HIL
              have HRS2 : Hid (runD (ys.map (·.2)) (k + 1) = (acc ++ [(txt y, (acc.length : Int) + 1)], cls ++ outD y ((acc.length : Int) + 1) (kN (acc ++ [(txt y, (acc.length : Int) + 1)]) (kA y)) (kN (acc ++ [(txt y, (acc.length : Int) + 1)]) (kB y)))) := hd (by rw [HRS.out]; unfold stepD; rw [if_neg (by rw [hlet]; decide)])
              have HK2 := hd (HKD.out hlet)
              obtain ⟨m0, m1, m2, m3⟩ := blk4F (HXR.out.heap hb)
              have hc1 : wr.cell? (a.add k) = some (.pointer (some ⟨b2, 0, none⟩)) := by rw [← eb]; exact hc0
              obtain ⟨n0, n1⟩ := blk2 HD.out.1.fam.blk
              obtain ⟨n2, n3⟩ := blk2f HD.out.1.fam.blk
              have hwp : IntKind.i64.wrap ((acc.length : Int) + 1) = (acc.length : Int) + 1 := IntWalk.i64_in _ (by omega)
              have HB := hd hb
              have HEB := hd eb
              clear HRS hb eb hc0
              go_wp2_with fail
              refine (HIL.out _).mono ?_
              rintro e w3 ⟨rfl, rfl⟩
              go_wp2_with fail
              have hD3 : DX w1 (wr.setCell ⟨w1.heap.size, 0, none⟩ (.int .i64 ((acc.length : Int) + 1))).drew w1.heap.size (w1.heap.size + 1) w1.heap.size ((acc.length : Int) + 1) ov cls acc lo2 (.slice (some a) ys.length c) ys := (HD.out.num _).on (Ext.refl _).drew
              refine wp_region_still_tail 7 (by kernel_rfl) (by kernel_rfl) ?_
              change wpStill _ _ ((wr.setCell ⟨w1.heap.size, 0, none⟩ (.int .i64 ((acc.length : Int) + 1))).drew) (fun a2 => wpList _ _ _ _ a2 ((wr.setCell ⟨w1.heap.size, 0, none⟩ (.int .i64 ((acc.length : Int) + 1))).drew)) _ _
              generalize (wr.setCell ⟨w1.heap.size, 0, none⟩ (.int .i64 ((acc.length : Int) + 1))).drew = ws at *
              have HD3 := hd hD3
              clear hD3 m0 m1 m2 m3 n0 n1 n2 n3 HR hc1
              obtain ⟨m0, m1, m2, m3⟩ := blk4F (HD3.out.1.fam.ext.heap HB.out)
              obtain ⟨n0, n1⟩ := blk2 HD3.out.1.fam.blk
              have HKY : Hid (keyOf Try.prog 9 (.string (strF y)) = some (.string (txt y))) := hd (by
                have := Go.WideMaps.keyOf_string_mk (P := Try.prog) Try.underlying9 (s := strF y) (by rw [strF_size]; unfold maxLen; omega)
                rw [strF_list] at this
                exact this)
              simp only [List.take_succ_cons, List.take_zero, List.drop_succ_cons, List.drop_zero]
              repeat still_step
              refine wpStill_nil ?_
              at_mapUpdate
              refine wpList_mapUpdate_own _ rfl _ _ _ 87 rfl 9 3 (string_keyed Try.underlying9) Try.underlying87 _ (w1.heap.size + 1) acc.length _ rfl HD3.out.1.map (by unfold maxLen; omega) _ _ _ rfl rfl HKY.out _ [] (plainElem_int Try.underlying3 (by simp [Lit.wf, IntKind.min, IntKind.max, IntKind.signed, IntKind.bits]; omega)) ?_
              intro w6 hm6 hg6
              obtain ⟨acc2, hacc2⟩ : ∃ acc2, acc ++ [(txt y, (acc.length : Int) + 1)] = acc2 := ⟨_, rfl⟩
              have hal2 : acc2.length = acc.length + 1 := by rw [← hacc2]; simp
              have hD6 : DX w1 w6 w1.heap.size (w1.heap.size + 1) w1.heap.size ((acc.length : Int) + 1) ov cls acc2 lo2 (.slice (some a) ys.length c) ys := HD3.out.upd (by
                rw [hal2, ← hacc2]
                unfold OwnM
                rw [dM_snoc]
                exact hm6) hg6
              have HD6 := hd hD6
              rw [hacc2] at HRS2 HK2
              obtain ⟨x, hx⟩ : ∃ x, kN acc2 (kA y) = x := ⟨_, rfl⟩
              obtain ⟨z, hz⟩ : ∃ z, kN acc2 (kB y) = z := ⟨_, rfl⟩
              obtain ⟨p1, p2⟩ := HK2.out _ (.inl rfl)
              obtain ⟨q1, q2⟩ := HK2.out _ (.inr rfl)
              rw [hx] at p1 p2 HRS2
              rw [hz] at q1 q2 HRS2
              have hxb : 0 ≤ x ∧ x ≤ 500 := by
                by_cases h0 : kA y = []
                · rw [p1 h0]; omega
                · have := p2 h0; omega
              have hzb : 0 ≤ z ∧ z ≤ 500 := by
                by_cases h0 : kB y = []
                · rw [q1 h0]; omega
                · have := q2 h0; omega
              have HX0 := hd hx
              have HZ0 := hd hz
              have HDF := hd (fun w' => i_defined y ((acc.length : Int) + 1) x z w' hwf hlet (by omega) hxb hzb)
              have HROK := hd (rawD_ok (y := y) (v := (acc.length : Int) + 1) (x := x) (z := z) (by omega) p2 q2)
              have HR3 := hd (rawD_len y ((acc.length : Int) + 1) x z)
              have HRS3 : Hid (runD (ys.map (·.2)) (k + 1) = (acc2, cls ++ (rawD y ((acc.length : Int) + 1) x z).filterMap clO)) := HRS2
              clear HRS2 HK2 HKD hm6 hg6 hD6 hx hz p1 p2 q1 q2 hacc2 HD HD3 m0 m1 m2 m3 n0 n1 HKY HIL
              generalize rawD y ((acc.length : Int) + 1) x z = raw at *
              obtain ⟨m0, m1, m2, m3⟩ := blk4F (HD6.out.1.fam.ext.heap HB.out)
              obtain ⟨n0, n1⟩ := blk2 HD6.out.1.fam.blk
              have hr3 := HR3.out
              obtain ⟨hA, hB⟩ := kids_of HND.out HEB.out HB.out HD6.out.1 (by omega) HX0.out HZ0.out
              clear HND HEB HB HX0 HZ0 hxb hzb HR3 hwf hlet htl
              generalize (opF y).toNat = on at *
              rcases hA with ⟨rfl, hx0⟩ | ⟨ba, sa, rfl, la, lka⟩
              all_goals rcases hB with ⟨rfl, hz0'⟩ | ⟨bb, sb, rfl, lb, lkb⟩
              all_goals (try rw [hx0] at HDF); (try rw [hz0'] at HDF)
              all_goals
                go_wp2_with fail
                obtain ⟨wo, rfl⟩ : ∃ wo : World, wo = w6 := ⟨_, rfl⟩
                go_region_held3 (fun w' => (w'.cell? ⟨b2, 0, none⟩ = some (.int .u8 on) ∧ w'.cell? ⟨w1.heap.size, 0, none⟩ = some (.int .i64 ((acc.length : Int) + 1))) ∧ Ext wo w')
                  ((refine ⟨⟨Ext.cell ?_ m0, Ext.cell ?_ n0⟩, ?_⟩ <;> (first | assumption | exact Ext.refl _ | exact (Ext.refl _).drew)))
                  (first
                    | (go_at_call 61; refine (HDF.out _).mono ?_
                       rintro e w7 ⟨u, rfl, hrd, hx7⟩
                       obtain ⟨A8, c8, rfl, hc81, hc82, -⟩ := (hrd w7 (fun _ _ _ => rfl)).form
                       have X7 : Ext wo w7 := Ext.trans (by first | (go_split_ands; assumption) | exact (Ext.refl _).drew) hx7
                       have HRD : Hid (∀ W : World, (∀ b, wo.heap.size ≤ b → b < w7.heap.size → W.heap[b]? = w7.heap[b]?) → RdSS W (.slice A8 raw.length c8) raw) := hd (fun W hW => hrd W (fun b h1 h2 => hW b (Nat.le_trans (ext_size (by first | (go_split_ands; assumption) | exact (Ext.refl _).drew)) h1) h2))
                       clear hrd hx7))
                have D7 : Hid (DX w1 w7 w1.heap.size (w1.heap.size + 1) w1.heap.size ((acc.length : Int) + 1) ov (cls ++ (raw.take 0).filterMap clO) acc2 lo2 (.slice (some a) ys.length c) ys) := hd (by
                  have := HD6.out.on X7
                  simpa using this)
                have V7 : Hid (Win w7 w7 wo.heap.size ov) := hd (Win.start (HD6.out.1.fam.ov_lt))
                have hbl : w1.heap.size < wo.heap.size := blk_lt HD6.out.1.fam.blk
                clear m0 m1 m2 m3 n0 n1 HD6 X7
                unfold maxLen at hc82
                go_wp2_with fail
                go_loopw [99] (fun i wr => ∃ (m : Nat) (ov : Value), m ≤ raw.length ∧ i = .int .i64 (m : Int) ∧ DX w1 wr w1.heap.size (w1.heap.size + 1) w1.heap.size ((acc.length : Int) + 1) ov (cls ++ (raw.take m).filterMap clO) acc2 lo2 (.slice (some a) ys.length c) ys ∧ Win w7 wr wo.heap.size ov) (fun i _ => raw.length - (intOf i).toNat)
                case atStart => exact ⟨0, _, by omega, rfl, D7.out, V7.out⟩
                case round =>
                  clear D7 V7
                  obtain ⟨m, ov, hm, rfl, hD, hV⟩ := hrel
                  have HD := hd hD
                  have HV3 := hd hV
                  have HRr : Hid (RdSS wr (.slice A8 raw.length c8) raw) := hd (HRD.out wr hV.win)
                  clear hD hV
                  by_cases hlt3 : m < raw.length
                  · obtain ⟨a8, u8, rfl, hc8, hu8⟩ := RdSS.at_ HRr hlt3
                    obtain ⟨ok1, ok2, -⟩ := HROK.out _ (List.getElem_mem hlt3)
                    have HCL := hd (i_clauseO raw[m] u8 wr hu8 (by omega) ok1)
                    have HTK : Hid ((raw.take (m + 1)).filterMap clO = (raw.take m).filterMap clO ++ ([raw[m]] : List (List Int)).filterMap clO) := hd (by rw [List.take_succ_eq_append_getElem hlt3, List.filterMap_append])
                    have hfl : ((raw.take m).filterMap clO).length ≤ 3 := Nat.le_trans (List.length_filterMap_le _ _) (by rw [List.length_take]; omega)
                    clear hu8 ok1 ok2
                    generalize raw[m] = row at *
                    obtain ⟨oc, hco⟩ : ∃ oc, clO row = oc := ⟨_, rfl⟩
                    rw [hco] at HCL
                    cases oc with
                    | none =>
                      have HE : Hid (cls ++ (raw.take (m + 1)).filterMap clO = cls ++ (raw.take m).filterMap clO) := hd (by rw [HTK.out, List.filterMap_cons, hco]; simp)
                      clear HTK hco
                      go_wp2_with fail
                      refine (HCL.out).mono ?_
                      rintro e w3 ⟨rfl, hx3⟩
                      go_wp2
                      go_roundw
                      case rel => exact ⟨m + 1, ov, by omega, by go_num, by rw [HE.out]; exact HD.out.on hx3, HV3.out.on hx3⟩
                      case measure => simp [intOf]; omega
                    | some cl =>
                      have HE : Hid (cls ++ (raw.take (m + 1)).filterMap clO = cls ++ (raw.take m).filterMap clO ++ [cl]) := hd (by rw [HTK.out, List.filterMap_cons, hco]; simp)
                      clear HTK hco
                      go_wp2_with fail
                      refine (HCL.out).mono ?_
                      rintro e w3 ⟨u, rfl, ho3, hx3⟩
                      obtain ⟨A9, c9, rfl, h91, h92, ha9⟩ := ho3.rd.form
                      obtain ⟨n0, n1⟩ := blk2 (HD.out.on hx3).1.fam.blk
                      have HO3 := hd ho3
                      have HX3 := hd hx3
                      unfold maxLen at h92
                      clear ho3 hx3 ha9
                      go_wp2_with (at_builtin; refine appFZ2 (zs := [(.slice A9 cl.length c9, cl)]) HD.out.1.fam (by decide) (by decide) (HX3.out.trans (Ext.new _ _)) (((RowsZ.one HO3.out).ext (Ext.new _ _)).hi_size) (Nat.le_refl _) (rdZ_at (us := [.slice A9 cl.length c9]) (heap_n1 _ _) (by simp)) rfl _ _ rfl (by rfl) (by rfl) (by simp only [List.length_append, List.length_cons, List.length_nil]; omega) ?_; intro L A7 c7 w9 hL hb9 HF9 X9 hg9 hv9; obtain ⟨q0, q1⟩ := blk2 hb9; obtain ⟨q2, q3⟩ := blk2f hb9; have HG9 := hd hg9; have HV9 := hd hv9; clear hb9 hg9 hv9)
                      go_roundw
                      case rel => exact ⟨m + 1, _, by omega, by go_num, by rw [HE.out]; exact HD.out.push (HX3.out.trans (Ext.new _ _)) HG9.out HF9.out, HV3.out.push (HX3.out.trans (Ext.new _ _)) HG9.out HV9.out hbl⟩
                      case measure => simp [intOf]; omega
                  · have hDE : DX w1 wr w1.heap.size (w1.heap.size + 1) w1.heap.size ((acc.length : Int) + 1) ov (cls ++ raw.filterMap clO) acc2 lo2 (.slice (some a) ys.length c) ys := by
                      have := HD.out
                      rw [List.take_of_length_le (by omega)] at this
                      exact this
                    have HDE := hd hDE
                    clear hDE HD HV3 HRr
                    go_wp2_with fail
                    go_roundw
                    case rel => exact ⟨k + 1, ov, by omega, by go_num, by rw [HRS3.out]; show DX _ _ _ _ _ ((acc2.length : Nat) : Int) _ (cls ++ raw.filterMap clO) acc2 _ _ _; rw [show ((acc2.length : Nat) : Int) = (acc.length : Int) + 1 from by omega]; exact HDE.out⟩
                    case measure => simp [intOf]; omega
          · have hkn : ¬ ((k : Int) < (ys.length : Int)) := by omega
            have e : k = ys.length := by omega
            have hD9 := HD.out
            rw [e, HEND.out] at hD9
            have hD8 : DX w1 wr w1.heap.size (w1.heap.size + 1) w1.heap.size (6 + ((othB f).length : Int)) ov (allD (othB f) (othB f).length) (initA ++ numL (othB f)) lo2 (.slice A ys.length c) ys := by
              have e2 : ((initA ++ numL (othB f)).length : Int) = 6 + ((othB f).length : Int) := by rw [List.length_append, initA_len, numL_len]; omega
              rw [← e2]
              exact hD9
            have HD8 := hd hD8
            have hol : (othB f).length ≤ 80 := by
              have := othK_len f (partsB f).length
              rw [othK_all] at this
              have := partsB_len f
              omega
            obtain ⟨n0, n1⟩ := blk2 hD8.1.fam.blk
            have XF0 := hd (HX.out.trans hD8.1.fam.ext)
            clear hD9 hD8 HD HR e hlt
            by_cases h6 : (othB f).length ≤ 6
            · have h6i : ¬ ((6 + ((othB f).length : Int)) > 12) := by omega
              have h6j : ¬ ((12 : Int) < (6 + ((othB f).length : Int))) := by omega
              have HDV6 := hd (HDV.out h6)
              have HDB6 : Hid (defB s = true) := hd (by rw [HDB.out]; exact decide_eq_true h6)
              have HDF : Hid (defF f = ⟨6 + ((othB f).length : Int), allD (othB f) (othB f).length ++ [[varN (othB f) (txt f)]]⟩) := hd rfl
              have hal18 : (allD (othB f) (othB f).length).length ≤ 18 := by have := allD_len (othB f) (othB f).length; omega
              have hlk := lk_run HD8.out.1.map s (by omega)
              rw [h2, lk_all h3] at hlk
              generalize varN (othB f) (txt f) = vn at *
              generalize allD (othB f) (othB f).length = L18 at *
              generalize hV : 6 + ((othB f).length : Int) = V at *
              clear h6
              go_wp2_with (at_builtin; refine appFZ2 (zs := [(.slice (some ⟨wr.heap.size, 0, none⟩) 1 1, [vn])]) HD8.out.1.fam (by decide) (by decide) ((Ext.new _ _).alloc _) (((RowsZ.one (ownI_litY wr vn (Nat.le_refl _))).ext (Ext.new _ _)).hi_size) (Nat.le_refl _) (rdZ_at (b := wr.heap.size + 1) (us := [.slice (some ⟨wr.heap.size, 0, none⟩) 1 1]) (blk_new _ (by simp)) (by simp)) rfl _ _ rfl (by rfl) (by rfl) (by simp only [List.length_cons, List.length_nil]; omega) ?_; intro L A7 c7 w9 hL hb9 HF9 X9 hg9 hv9; obtain ⟨q0, q1⟩ := blk2 hb9; obtain ⟨q2, q3⟩ := blk2f hb9; have q4 := blk_lt hb9; have XF := hd (HX.out.trans HF9.out.ext); have B3 := hd (XF.out.heap R0.out); have OW := hd HF9.out.own; have X3 := hd (X0.out.trans XF.out); obtain ⟨m0, m1⟩ := blk2 HF9.out.blk; obtain ⟨p0, p1⟩ := blk2 B3.out; obtain ⟨p2, p3⟩ := blk2f B3.out; have p4 := blk_lt B3.out; clear hb9 hg9 hv9 hlk)
              have OW1 := hd OW.out
              generalize (w9.setCell ⟨w1.heap.size, 1, none⟩ (.slice A7 L c7)) = wz at *
              have HC := hd (blk2_set (x' := .int .i64 V) (y' := .slice A7 L c7) B3.out)
              have hg3 := grown_set (grown_set (grown_refl wz (some w.heap.size)) 0 (.int .i64 V)) 1 (.slice A7 L c7)
              have hws := X3.out.size
              have hw1s := (X0.out.trans HX.out).size
              have OW2 := hd (((OW1.out.box B3.out (by decide) (by decide) hg3).hi_le hg3.size).lo_le (lo' := w.heap.size) (by omega))
              have X4 := hd (ext_set (i := 1) (ext_set (i := 0) X3.out (Nat.le_refl _) (.int .i64 V)) (Nat.le_refl _) (.slice A7 L c7))
              clear hg3
              obtain ⟨r0, r1⟩ := blk2 HC.out
              exact bodyPost_ret (v := .tuple #[.agg #[.int .i64 V, .slice A7 L c7], .bool true]) (by simp [results, Try.results30, go_sem, r0, r1]) rfl (by rw [HDB6.out, HDV6.out, HDF.out]; exact ⟨_, rfl, ⟨_, rfl, OW2.out⟩, X4.out⟩)
            · have h6i : (6 + ((othB f).length : Int)) > 12 := by omega
              have HDB6 : Hid (defB s = false) := hd (by rw [HDB.out]; exact decide_eq_false h6)
              have B3 := hd (XF0.out.heap R0.out)
              obtain ⟨p0, p1⟩ := blk2 B3.out
              obtain ⟨f0, f1⟩ := blk2f B3.out
              have f2 := blk_lt B3.out
              have X5 := hd (X0.out.trans XF0.out)
              have X4 := hd (ext_set (i := 1) (ext_set (i := 0) X5.out (g := w.heap.size) (Nat.le_refl _) (.int .i64 0)) (g := w.heap.size) (Nat.le_refl _) (.slice none 0 0))
              have HC := hd (blk2_set (x' := .int .i64 0) (y' := .slice none 0 0) B3.out)
              clear h6
              go_wp2
              obtain ⟨q0, q1⟩ := blk2 HC.out
              exact bodyPost_ret (v := .tuple #[.agg #[.int .i64 0, .slice none 0 0], .bool false]) (by first | (simp [results, Try.results30, go_sem, q0, q1]; done) | (simp [results, Try.results30, go_sem, p0, p1]; done)) rfl (defV_zero HDB6.out (by first | exact X4.out | exact X5.out))
end Go.Proofs.Ytbdcomkbpapcaaa
