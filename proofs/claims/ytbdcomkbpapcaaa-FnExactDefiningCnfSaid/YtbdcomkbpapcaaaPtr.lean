import Derived.Test.YtbdcomkbpapcaaaFpP
import Derived.Test.YtbdcomkbpapcaaaMg9
/-
  Slices of pointers to trees: the words, append, collect, slices.SortFunc by text. Condition: list lengths up to 2^20.
-/

namespace Go.Proofs.Ytbdcomkbpapcaaa
open Go.RowKit Go.Sort
/-- A node's block and its tree. -/
abbrev Pf := Nat × Fm
def encP (p : Pf) : Value := .pointer (some ⟨p.1, 0, none⟩)
def ptrs (ps : List Pf) : List Value := ps.map encP
def txtP (p : Pf) : Bs := txt p.2
@[simp] theorem ptrs_len (ps : List Pf) : (ptrs ps).length = ps.length := by simp [ptrs]
theorem ptrs_get {ps : List Pf} {k : Nat} (h : k < ps.length) : (ptrs ps)[k]? = some (encP ps[k]) := by simp [ptrs, h]
theorem ptrs_append (ps qs : List Pf) : ptrs (ps ++ qs) = ptrs ps ++ ptrs qs := by simp [ptrs]
theorem ptrs_one (ps : List Pf) : ∀ u ∈ ptrs ps, u.oneCell' = true := by
  intro u hu
  obtain ⟨x, _, rfl⟩ := List.mem_map.1 hu
  rfl
abbrev OwnPf (w : World) (lo : Nat) (v : Value) (ps : List Pf) : Prop := Own w lo 84 1 v ps.length (ptrs ps)
/-- The pointers lead to their trees. -/
def NodesP (w : World) (ps : List Pf) : Prop := ∀ p ∈ ps, RdF 92 w p.2 (encP p)
theorem NodesP.ext {w w' : World} {ps : List Pf} (h : NodesP w ps) (hx : Ext w w') : NodesP w' ps := fun p hp => (h p hp).ext hx
theorem nodesP_append {w : World} {ps qs : List Pf} (h : NodesP w ps) (h' : NodesP w qs) : NodesP w (ps ++ qs) := fun p hp => by
  rcases List.mem_append.1 hp with hp | hp
  · exact h p hp
  · exact h' p hp
theorem info_ptr : (Try.prog.info? 84).map (fun i => (i.zero, i.size, i.bytes)) = some (some (.pointer none), 1, 8) := by kernel_rfl
theorem ownP_ge {w : World} {lo : Nat} {v : Value} {ps : List Pf} (h : OwnPf w lo v ps) : ∀ g, v.ownBlock = some g → lo ≤ g := fun g hg => (own_blocks h g hg).1
section
variable {w : World} {ops : Array Oper} {rest : List Oper} {o : Oper} {a : Act} {Q : Exit → Act → World → Prop}
/-- append(v, p), pointers. -/
theorem appP (w : World) {nb : Nat} {v : Value} {ps : List Pf} {base : Nat} (hown : OwnPf w base v ps) (hgd : o.guard = none) (s x : Operand)
    (ho : o.op = .call { callee := .builtin .append, args := #[s, x], argTypes := #[89, 89] })
    (p : Pf) (hs : a.eval s = v) (hx : a.eval x = .slice (some ⟨nb, 0, none⟩) 1 1) (hnb : w.heap.size = nb) (hn : ps.length ≤ 1073741824) (hbase : base ≤ w.heap.size)
    (h : ∀ v' w', OwnPf w' base v' (ps ++ [p]) → (w.alloc (.cells #[encP p] 84)).grownBy w' v.ownBlock → (v'.ownBlock = v.ownBlock ∨ v'.ownBlock = some (w.heap.size + 1)) → wpList Try.prog ops Q rest (a.put o.dst v') w') :
    wpList Try.prog ops Q (o :: rest) a (w.alloc (.cells #[encP p] 84)) := by
  subst hnb
  refine wpList_app1 w hgd s x 89 ho 84 Try.underlying89 info_ptr (by decide) rfl base v ps.length (ptrs ps) hs hown (encP p) hx rfl hn hbase fun v' w' k1 k2 k3 => h v' w' ?_ k2 k3
  have e : ptrs (ps ++ [p]) = ptrs ps ++ [encP p] := by rw [ptrs_append]; rfl
  show Own _ _ _ _ _ (ps ++ [p]).length (ptrs (ps ++ [p]))
  rw [e, List.length_append]
  exact k1
end
theorem rdF_enc {T : TypeId} {w : World} {f : Fm} {v : Value} (h : RdF T w f v) : ∃ b, v = encP (b, f) := by
  obtain ⟨b, _, _, rfl, _⟩ := h.head
  exact ⟨b, rfl⟩
/-! ### Sorting -/
section
variable {α : Type} {enc : α → Value}
theorem holds_of_blockG [Inhabited α] {w : World} {g : Nat} {cur : Array Value} {e : TypeId} {ss : List α} (hb : w.heap[g]? = some (.cells cur e (0, 0))) (ht : cur.toList.take ss.length = ss.map enc) : Holds enc w g 0 ss.toArray := by
  intro j hj
  have hj' : j < ss.length := by simpa using hj
  refine ⟨?_, by simp [World.frozen?, hb]⟩
  have h1 : (cur.toList.take ss.length)[j]? = (ss.map enc)[j]? := by rw [ht]
  rw [List.getElem?_take_of_lt hj'] at h1
  simp only [World.cell?, hb, Nat.zero_add]
  simp only [Option.isSome_none, Bool.false_eq_true, if_false]
  rw [← Array.getElem?_toList, h1]
  simp [hj']
theorem heap_sortedG [Inhabited α] {w : World} {g n : Nat} {os : Array Obj} {cur : Array Value} {e : TypeId} {fr : Nat × Nat} (d : Array α) (hb : w.heap[g]? = some (.cells cur e fr)) :
    (grow (putRow enc (Sort.ahead w n) g 0 d) os).heap[g]? = some (.cells (putCells enc 0 d cur) e fr) := by
  have hg : g < w.heap.size := (Array.getElem?_eq_some_iff.1 hb).1
  rw [heap_grow_old _ _ (by simpa using hg)]
  simp [putRow, mapBlock, Sort.ahead, Array.getElem?_modify, hb, onCells]
theorem grownBy_sortedG [Inhabited α] {w : World} {g n : Nat} {os : Array Obj} (d : Array α) : w.grownBy (grow (putRow enc (Sort.ahead w n) g 0 d) os) (some g) := by
  refine ⟨rfl, rfl, rfl, by simp, fun k hk hne => ?_⟩
  rw [heap_grow_old _ _ (by simpa using hk)]
  have : g ≠ k := fun e => hne (by rw [e])
  simp [putRow, mapBlock, Sort.ahead, Array.getElem?_modify, this]
theorem take_putCellsG [Inhabited α] (cur : Array Value) (ts : List α) (h : ts.length ≤ cur.size) : (putCells enc 0 ts.toArray cur).toList.take ts.length = ts.map enc := by
  apply List.ext_getElem?
  intro j
  by_cases hj : j < ts.length
  · rw [List.getElem?_take_of_lt hj, Array.getElem?_toList]
    simp [putCells, hj, show j < cur.size by omega]
  · rw [List.getElem?_take_eq_none (by omega), List.getElem?_eq_none (by simp; omega)]
theorem ownsRow_sortedG [Inhabited α] {w : World} {base g cap n m : Nat} {e : TypeId} {os : Array Obj} {cur : Array Value} {ts : List α} (hl : ts.length = m) (hbase : base ≤ g) (hb : w.heap[g]? = some (.cells cur e (0, 0)))
    (h1 : m ≤ cap) (h2 : cap ≤ maxLen) (h3 : cur.size = cap * 1) :
    (grow (putRow enc (Sort.ahead w n) g 0 ts.toArray) os).ownsRow base e 1 (.slice (some ⟨g, 0, none⟩) m cap) m (ts.map enc) :=
  ⟨by simp [hl], .inr ⟨g, cap, _, rfl, hbase, heap_sortedG _ hb, h1, h2, by simp [putCells, h3], by rw [Nat.mul_one, ← hl]; exact take_putCellsG cur ts (by omega)⟩⟩
/-- What a sort by a key leaves: the keys stand as a sort of the keys would leave them. -/
theorem sorted_keys [Inhabited α] (key : α → Bs) (d d' : Array α) (hp : PermIn 0 d.size d d') (hs : SortedIn (ltOf fun x y => cmpL (key x) (key y)) 0 d.size d') :
    d'.toList.map key = (d.toList.map key).mergeSort leB := by
  obtain ⟨hsz, _, hperm⟩ := hp
  have e1 : d'.extract 0 d.size = d' := by rw [← hsz]; exact Array.extract_size
  rw [e1, Array.extract_size] at hperm
  have hp2 : PermIn 0 (d.toList.map key).toArray.size (d.toList.map key).toArray (d'.toList.map key).toArray := by
    refine ⟨by simpa using hsz, fun i hi => ?_, ?_⟩
    · rcases hi with hi | hi
      · omega
      · have h1 : ¬ i < d.size := by simpa using hi
        rw [getElem!_neg _ _ (by simpa [hsz] using h1), getElem!_neg _ _ (by simpa using h1)]
    · rw [Array.extract_size]
      have e2 : (d'.toList.map key).toArray.extract 0 (d.toList.map key).toArray.size = (d'.toList.map key).toArray := by
        have : (d.toList.map key).toArray.size = (d'.toList.map key).toArray.size := by simpa using hsz.symm
        rw [this]; exact Array.extract_size
      rw [e2]
      exact hperm.map key
  have hs2 : SortedIn (ltOf cmpL) 0 (d.toList.map key).toArray.size (d'.toList.map key).toArray := by
    intro i j h1 h2 h3
    have h3' : j < d.size := by simpa using h3
    have k1 := hs i j h1 h2 h3'
    rw [getElem!_pos d' j (by omega), getElem!_pos d' i (by omega)] at k1
    rw [getElem!_pos _ j (by simpa [hsz] using h3'), getElem!_pos _ i (by simp [hsz]; omega)]
    simpa [ltOf] using k1
  have key2 := sorted_unique_holds (lt := ltOf cmpL) (by rw [cmpL_ltf]; exact befB_swo) (fun x y h1 h2 => befB_tot (by rw [← cmpL_lt]; exact h1) (by rw [← cmpL_lt]; exact h2)) _ _ hp2 hs2
  rw [cmpL_ltf] at key2
  show _ = List.mergeSort _ (fun x y => !befB y x)
  simpa using key2
end
theorem swo_key {α : Type} (key : α → Bs) : SWO (ltOf fun x y : α => cmpL (key x) (key y)) := by
  have e : ∀ x y, (ltOf fun x y : α => cmpL (key x) (key y)) x y = befB (key x) (key y) := fun x y => cmpL_lt (key x) (key y)
  refine ⟨fun x => by rw [e]; exact befB_irr _, fun x y z h1 h2 => ?_, fun x y z h1 h2 => ?_⟩
  · rw [e] at *; exact befB_trans h1 h2
  · rw [e] at *; exact befB_swo.ntrans _ _ _ h1 h2
set_option maxHeartbeats 1600000 in
theorem i_partsCmp (p q : Pf) (w : World) (hp : RdF 92 w p.2 (encP p)) (hq : RdF 92 w q.2 (encP q)) :
    Calls Try.prog 95 #[encP p, encP q] w (fun e w' => e = .returned (.int .i64 (cmpL (txtP p) (txtP q))) ∧ ∃ n os, w' = grow (w.drewN n) os) := by
  obtain ⟨b, va, vb, e1, hb⟩ := hp.head
  obtain ⟨b', va', vb', e2, hb'⟩ := hq.head
  obtain ⟨k0, k1, k2, k3⟩ := blk4F hb
  obtain ⟨l0, l1, l2, l3⟩ := blk4F hb'
  have HC := hd (fun (w : World) => i_compareFormulas (txt p.2) (txt q.2) w)
  have HT : Hid (cmpL (txtP p) (txtP q) = cmpL (txt p.2) (txt q.2)) := hd rfl
  rw [e1, e2]
  rw [HT.out]
  generalize cmpL (txt p.2) (txt q.2) = z at *
  have es : strF p.2 = ⟨(txt p.2).toArray⟩ := rfl
  have es' : strF q.2 = ⟨(txt q.2).toArray⟩ := rfl
  rw [es] at k3
  rw [es'] at l3
  change Hid (∀ w, Calls Try.prog 96 #[.string ⟨(txt p.2).toArray⟩, .string ⟨(txt q.2).toArray⟩] w (fun e w' => e = .returned (.int .i64 z) ∧ ∃ q os, w' = grow (w.drewN q) os)) at HC
  generalize (⟨(txt p.2).toArray⟩ : ByteArray) = s at *
  generalize (⟨(txt q.2).toArray⟩ : ByteArray) = t at *
  clear hp hq hb hb' e1 e2 es es' HT
  go_enter Try.func95, Try.ntmps95
  go_wp2_with fail
  go_region_law ((go_simp; go_at_call 96; with_reducible refine (HC.out _).mono ?_; rintro e w2 ⟨rfl, n, os, rfl⟩))
  all_goals
    go_wp2
    go_ret
    exact ⟨rfl, _, _, rfl⟩
set_option maxHeartbeats 1600000 in
theorem i_partsEq (p q : Pf) (w : World) (hp : RdF 92 w p.2 (encP p)) (hq : RdF 92 w q.2 (encP q)) :
    Calls Try.prog 98 #[encP p, encP q] w (RetQ w (.bool (txtP p == txtP q))) := by
  obtain ⟨b, va, vb, e1, hb⟩ := hp.head
  obtain ⟨b', va', vb', e2, hb'⟩ := hq.head
  obtain ⟨k0, k1, k2, k3⟩ := blk4F hb
  obtain ⟨l0, l1, l2, l3⟩ := blk4F hb'
  have HT : Hid ((txtP p == txtP q) = ((strF p.2).toList == (strF q.2).toList)) := hd (by rw [ByteArray.toList_eq, ByteArray.toList_eq, strF_list, strF_list]; rfl)
  rw [e1, e2, HT.out]
  generalize strF p.2 = s at *
  generalize strF q.2 = t at *
  clear hp hq hb hb' e1 e2 HT
  go_enter Try.func98, Try.ntmps98
  go_wp2_with fail
  go_quiet (fail)
  go_wp2
  go_ret
  exact RetQ.mkN rfl
def RetCol (w0 wN : World) (ps : List Pf) (f : Fm) : Ending → World → Prop := fun e w' => ∃ u qs, e = .returned u ∧ qs.map (·.2) = subs f ∧ OwnPf w' w0.heap.size u (ps ++ qs) ∧ NodesP wN qs ∧ Ext w0 w'
set_option maxHeartbeats 3200000 in
theorem i_collect (w0 wN : World) (hN : Hid (Ext wN w0)) : ∀ (f : Fm) (p : Value) (w : World) (v : Value) (ps : List Pf), RdF 92 wN f p → Ext w0 w → OwnPf w w0.heap.size v ps → ps.length + (subs f).length ≤ 1000 →
    Calls Try.prog 93 #[p, v] w (RetCol w0 wN ps f)
  | .leaf c, p, w, v, ps, hp, hx, ho, hn => by
    obtain ⟨b, rfl, hb⟩ := hp
    have HP : Hid (NodesP wN [(b, .leaf c)]) := hd fun q hq => by rw [List.mem_singleton.1 hq]; exact ⟨b, rfl, hb⟩
    have HO := hd ho
    have HX := hd hx
    have hsz := hx.size
    obtain ⟨k0, k1, k2, k3⟩ := blk4F hb
    have HK1 := hd (hN.out.cell k1)
    have HK2 := hd (hN.out.cell k2)
    have hn2 : ps.length ≤ 1000 := by omega
    clear ho hx k0 k1 k2 k3 hb hn
    go_enter Try.func93, Try.ntmps93
    go_wp2_with (at_builtin; refine appP _ HO.out rfl _ _ rfl (b, .leaf c) (by rfl) (by rfl) rfl (by omega) hsz ?_; intro u w1 hu hg _; have HU := hd hu; have HX1 := hd (ext_app HX.out hg (ownP_ge HO.out)); have c1 := HX1.out.cell HK1.out; have c2 := HX1.out.cell HK2.out; clear hu hg)
    go_ret
    exact ⟨_, [(b, .leaf c)], rfl, rfl, HU.out, HP.out, HX1.out⟩
  | .neg a, p, w, v, ps, hp, hx, ho, hn => by
    obtain ⟨b, va, rfl, hb, ha⟩ := hp
    have HP : Hid (NodesP wN [(b, .neg a)]) := hd fun q hq => by rw [List.mem_singleton.1 hq]; exact ⟨b, va, rfl, hb, ha⟩
    have HREC := hd (fun w v ps h1 h2 h3 => i_collect w0 wN hN a va w v ps ha h1 h2 h3)
    obtain ⟨ba, eva⟩ := rdF_enc ha
    have eva' : va = .pointer (some ⟨ba, 0, none⟩) := eva
    subst eva'
    have HO := hd ho
    have HX := hd hx
    have hsz := hx.size
    obtain ⟨k0, k1, k2, k3⟩ := blk4F hb
    have HK1 := hd (hN.out.cell k1)
    have HK2 := hd (hN.out.cell k2)
    have hn2 : ps.length + (1 + (subs a).length) ≤ 1000 := by simp [subs] at hn; omega
    clear ho hx k0 k1 k2 k3 hb hn ha eva
    go_enter Try.func93, Try.ntmps93
    go_wp2_with (at_builtin; refine appP _ HO.out rfl _ _ rfl (b, .neg a) (by rfl) (by rfl) rfl (by omega) hsz ?_; intro u w1 hu hg _; have HU := hd hu; have HX1 := hd (ext_app HX.out hg (ownP_ge HO.out)); have c1 := HX1.out.cell HK1.out; have c2 := HX1.out.cell HK2.out; clear hu hg)
    refine (HREC.out _ u (ps ++ [(b, .neg a)]) HX1.out HU.out (by simp; omega)).mono ?_
    rintro e w2 ⟨u2, qs, rfl, hq, hu2, hn2, hx2⟩
    have d2 := hx2.cell HK2.out
    have HU2 := hd hu2
    have HN2 := hd hn2
    have HX2 := hd hx2
    have HQ := hd hq
    clear hq hu2 hn2 hx2 c1 c2
    go_wp2
    go_ret
    exact ⟨_, (b, .neg a) :: qs, rfl, by rw [List.map_cons, HQ.out]; rfl, by have := HU2.out; simpa using this, nodesP_append HP.out HN2.out, HX2.out⟩
  | .bin o x y, p, w, v, ps, hp, hx, ho, hn => by
    obtain ⟨b, vx, vy, rfl, hb, ha, hb2⟩ := hp
    have HP : Hid (NodesP wN [(b, .bin o x y)]) := hd fun q hq => by rw [List.mem_singleton.1 hq]; exact ⟨b, vx, vy, rfl, hb, ha, hb2⟩
    have HREC := hd (fun w v ps h1 h2 h3 => i_collect w0 wN hN x vx w v ps ha h1 h2 h3)
    have HRECB := hd (fun w v ps h1 h2 h3 => i_collect w0 wN hN y vy w v ps hb2 h1 h2 h3)
    obtain ⟨ba, eva⟩ := rdF_enc ha
    obtain ⟨bb, evb⟩ := rdF_enc hb2
    have eva' : vx = .pointer (some ⟨ba, 0, none⟩) := eva
    have evb' : vy = .pointer (some ⟨bb, 0, none⟩) := evb
    subst eva'
    subst evb'
    have HO := hd ho
    have HX := hd hx
    have hsz := hx.size
    obtain ⟨k0, k1, k2, k3⟩ := blk4F hb
    have HK1 := hd (hN.out.cell k1)
    have HK2 := hd (hN.out.cell k2)
    have hn2 : ps.length + (1 + ((subs x).length + (subs y).length)) ≤ 1000 := by simp [subs] at hn; omega
    clear ho hx k0 k1 k2 k3 hb hn ha eva evb hb2
    go_enter Try.func93, Try.ntmps93
    go_wp2_with (at_builtin; refine appP _ HO.out rfl _ _ rfl (b, .bin o x y) (by rfl) (by rfl) rfl (by omega) hsz ?_; intro u w1 hu hg _; have HU := hd hu; have HX1 := hd (ext_app HX.out hg (ownP_ge HO.out)); have c1 := HX1.out.cell HK1.out; have c2 := HX1.out.cell HK2.out; clear hu hg)
    refine (HREC.out _ u (ps ++ [(b, .bin o x y)]) HX1.out HU.out (by simp; omega)).mono ?_
    rintro e w2 ⟨u2, qs, rfl, hq, hu2, hn2, hx2⟩
    have d2 := hx2.cell HK2.out
    have HU2 := hd hu2
    have HN2 := hd hn2
    have HX2 := hd hx2
    have hql : qs.length = (subs x).length := by rw [← hq]; simp
    have HQL := hd hql
    have HQ := hd hq
    clear hq hu2 hn2 hx2 c1 c2 hql
    go_wp2_with fail
    refine (HRECB.out _ u2 (ps ++ [(b, .bin o x y)] ++ qs) HX2.out HU2.out (by have := HQL.out; simp; omega)).mono ?_
    rintro e w3 ⟨u3, rs, rfl, hr, hu3, hn3, hx3⟩
    have HU3 := hd hu3
    have HN3 := hd hn3
    have HX3 := hd hx3
    have HR := hd hr
    clear hr hu3 hn3 hx3 d2
    go_wp2
    go_ret
    exact ⟨_, (b, .bin o x y) :: (qs ++ rs), rfl, by rw [List.map_cons, List.map_append, HQ.out, HR.out]; rfl, by have := HU3.out; simpa using this, nodesP_append HP.out (nodesP_append HN2.out HN3.out), HX3.out⟩
theorem enters_partsCmp : ∀ args w, (callFunc 95 args).run Try.prog w = .ok (.enter 95 args) w := fun args w => by kernel_rfl
theorem lift_sub {α : Type} {P : α → Prop} : ∀ (xs : List α), (∀ x ∈ xs, P x) → ∃ zs : List {x // P x}, zs.map Subtype.val = xs
  | [], _ => ⟨[], rfl⟩
  | x :: r, h => by
    obtain ⟨zs, hz⟩ := lift_sub r fun y hy => h y (List.mem_cons_of_mem _ hy)
    exact ⟨⟨x, h x (List.mem_cons_self ..)⟩ :: zs, by rw [List.map_cons, hz]⟩
def RetSortP (w0 : World) (v : Value) (xs : List Pf) (w : World) : Ending → World → Prop := fun e w' => e = .returned (.tuple #[]) ∧ ∃ ys : List Pf, ys.map txtP = (xs.map txtP).mergeSort leB ∧ (∀ y ∈ ys, y ∈ xs) ∧ OwnPf w' w0.heap.size v ys ∧ w.grownBy w' v.ownBlock
theorem slices_SortP (w0 : World) (xs : List Pf) (v : Value) (w : World) (hx : Ext w0 w) (hn : NodesP w0 xs) (h : OwnPf w w0.heap.size v xs) (hl : xs.length ≤ 1048576) :
    Calls Try.prog 94 #[v, .func (.func 95) #[] #[]] w (RetSortP w0 v xs w) := by
  have h0 := h
  rcases h.2 with ⟨rfl, hnn⟩ | ⟨g, cap, cur, rfl, hb, hg, hnc, hcm, hcs, ht⟩
  · obtain rfl : xs = [] := List.eq_nil_of_length_eq_zero hnn
    refine (AnyF.slices_SortFunc_none Try.sortFuncP0 none 0 _ w).mono ?_
    rintro e w' ⟨rfl, rfl⟩
    exact ⟨rfl, [], by simp, by simp, h0, grown_refl _ _⟩
  · cases hxs : xs with
    | nil =>
      subst hxs
      refine (AnyF.slices_SortFunc_none Try.sortFuncP0 (some ⟨g, 0, none⟩) cap _ w).mono ?_
      rintro e w' ⟨rfl, rfl⟩
      exact ⟨rfl, [], by simp, by simp, h0, grown_refl _ _⟩
    | cons x0 r0 =>
      rw [← hxs]
      haveI : Inhabited {p : Pf // RdF 92 w0 p.2 (encP p)} := ⟨⟨x0, hn x0 (by rw [hxs]; simp)⟩⟩
      clear hxs
      obtain ⟨zs, rfl⟩ := lift_sub (P := fun p : Pf => RdF 92 w0 p.2 (encP p)) xs hn
      have hlen : (zs.map Subtype.val).length = zs.toArray.size := by simp
      have hH : Holds (fun z : {p : Pf // RdF 92 w0 p.2 (encP p)} => encP z.1) w g 0 zs.toArray := holds_of_blockG hg (by
        have e : zs.map (fun z => encP z.1) = ptrs (zs.map Subtype.val) := by simp [ptrs]
        rw [e, ← ht]
        simp)
      have hX : ∀ m os (dk : Array {p : Pf // RdF 92 w0 p.2 (encP p)}), Ext w0 (sortWorld (fun z : {p : Pf // RdF 92 w0 p.2 (encP p)} => encP z.1) w g 0 m dk os) := fun m os dk =>
        ext_appS (v := .slice (some ⟨g, 0, none⟩) 0 0) hx (grownBy_sortedG dk) (fun g' hg' => by cases hg'; exact hb)
      have hC : CmpLays1 Try.prog 95 #[] (fun z : {p : Pf // RdF 92 w0 p.2 (encP p)} => encP z.1) (fun x y => cmpL (txtP x.1) (txtP y.1)) g 0 zs.toArray.size w :=
        fun m os dk _ x y => i_partsCmp x.1 y.1 _ (x.2.ext (hX m os dk)) (y.2.ext (hX m os dk))
      rw [hlen]
      refine (Any.slices_SortFunc Try.sortFuncPL (fun z : {p : Pf // RdF 92 w0 p.2 (encP p)} => encP z.1) (fun _ => rfl) (fun x y => cmpL (txtP x.1) (txtP y.1)) (swo_key fun z : {p : Pf // RdF 92 w0 p.2 (encP p)} => txtP z.1) 95 #[] g 0 cap zs.toArray w enters_partsCmp hC hH (Array.getElem?_eq_some_iff.1 hg).1 (by simp at hl ⊢; omega)).mono ?_
      rintro e w' ⟨rfl, d', n, os, hp, hs, rfl⟩
      have hk := sorted_keys (fun z : {p : Pf // RdF 92 w0 p.2 (encP p)} => txtP z.1) zs.toArray d' hp hs
      have hsz : d'.size = zs.toArray.size := hp.1
      have hperm : d'.toList.Perm zs := by
        have h2 := hp.2.2
        have e1 : d'.extract 0 zs.toArray.size = d' := by rw [← hsz]; exact Array.extract_size
        rw [e1, Array.extract_size] at h2
        exact h2
      refine ⟨rfl, d'.toList.map Subtype.val, ?_, fun y hy => ?_, ?_, grownBy_sortedG d'⟩
      · simpa [List.map_map] using hk
      · obtain ⟨z, hz, rfl⟩ := List.mem_map.1 hy
        exact List.mem_map_of_mem (hperm.mem_iff.1 hz)
      · have := ownsRow_sortedG (enc := fun z : {p : Pf // RdF 92 w0 p.2 (encP p)} => encP z.1) (n := n) (os := os) (base := w0.heap.size) (ts := d'.toList) (m := zs.toArray.size) (by simpa using hsz) hb hg (by simpa using hnc) hcm hcs
        have e2 : (d'.toList.map Subtype.val).length = zs.toArray.size := by simpa using hsz
        have e3 : ptrs (d'.toList.map Subtype.val) = d'.toList.map (fun z => encP z.1) := by simp [ptrs]
        show Own _ _ _ _ _ (d'.toList.map Subtype.val).length (ptrs (d'.toList.map Subtype.val))
        rw [e2, e3]
        simpa [sortWorld] using this
end Go.Proofs.Ytbdcomkbpapcaaa
