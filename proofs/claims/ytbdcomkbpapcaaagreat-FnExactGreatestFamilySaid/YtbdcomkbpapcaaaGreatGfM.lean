import Derived.Test.YtbdcomkbpapcaaaGreatGfL
import Derived.Test.YtbdcomkbpapcaaaGreatGfK
import Derived.Test.YtbdcomkbpapcaaaGreatFamB
/-
  Greatest families, the program's side: all allowed assignments, gathered by a recursive function that calls a function value. Conditions: at most 60 clauses of literals within 12, at most six variables.
-/

namespace Go.Proofs.YtbdcomkbpapcaaaGreat
open Go.RowKit Seed
/-- Blocks of numbers stay. -/
def KT (w w' : World) : Prop := ∀ (b : Nat) (cs : Array Value) (fr : Nat × Nat), w.heap[b]? = some (Obj.cells cs 3 fr) → w'.heap[b]? = some (Obj.cells cs 3 fr)
theorem KT.refl (w : World) : KT w w := fun _ _ _ h => h
theorem KT.trans {a b c : World} (h : KT a b) (k : KT b c) : KT a c := fun x y z e => k x y z (h x y z e)
theorem KT.ext {w w' : World} (h : Ext w w') : KT w w' := fun _ _ _ e => h.heap e
theorem rdI_kt {w w' : World} {a : Addr} {n c : Nat} {xs : List Int} {cells : Array Value} {fr : Nat × Nat} (h : RdI w (.slice (some a) n c) xs) (hb : w.heap[a.block]? = some (.cells cells 3 fr)) (hk : KT w w') : RdI w' (.slice (some a) n c) xs := by
  have hh := hk _ _ _ hb
  obtain ⟨h1, A, c', e, h2, h3, h4⟩ := h
  injection e with e1 e2 e3
  subst e1
  subst e2
  subst e3
  refine ⟨h1, some a, c, rfl, h2, h3, fun j u hu => ?_⟩
  obtain ⟨a', ha, hc⟩ := h4 j u hu
  cases ha
  refine ⟨a, rfl, ?_⟩
  have hb2 : (a.add j).block = a.block := by unfold Addr.add; split <;> rfl
  simp only [World.cell?] at hc ⊢
  rw [hb2, hb] at hc
  rw [hb2, hh]
  exact hc
theorem RowN.kt {w w' : World} {z : Row} (h : RowN w z) (hk : KT w w') : RowN w' z := by
  rcases h with h | ⟨h1, a, c, e, cells, fr, hb⟩
  · exact .inl h
  · obtain ⟨u, xs⟩ := z
    simp only at e h1
    subst e
    exact .inr ⟨rdI_kt h1 hb hk, a, c, rfl, cells, fr, hk _ _ _ hb⟩
/-- The box of the gathered rows. -/
structure Acc (w0 w : World) (ov : Value) (zs : List Row) : Prop where
  x : Ext w0 w
  bx : w.heap[w0.heap.size]? = some (.cells #[ov] 22 (0, 0))
  o : OutZ w (w0.heap.size + 1) ov zs
  r : ∀ z ∈ zs, RowN w z
section
variable {w0 w w' : World} {ov : Value} {zs : List Row}
theorem Acc.ext (h : Acc w0 w ov zs) (hx : Ext w w') : Acc w0 w' ov zs := ⟨h.x.trans hx, hx.heap h.bx, own_ext h.o hx, fun z hz => (h.r z hz).ext hx⟩
/-- A row is put behind the others. -/
theorem Acc.push {wa w1 : World} {ov' : Value} {z : Row} (h : Acc w0 w ov zs) (ha : Ext w wa) (ho : OutZ w1 (w0.heap.size + 1) ov' (zs ++ [z])) (hg : wa.grownBy w1 ov.ownBlock) (hz : RowN w z) :
    Acc w0 (w1.setCell ⟨w0.heap.size, 0, none⟩ ov') ov' (zs ++ [z]) ∧ KT w (w1.setCell ⟨w0.heap.size, 0, none⟩ ov') := by
  have h2 := h.ext ha
  have hb : w0.heap.size < wa.heap.size := (Array.getElem?_eq_some_iff.1 h2.bx).1
  have hbx := (hg.block _ hb fun e => own_box h2.o h2.bx (by decide) _ e.symm rfl).trans h2.bx
  have hs : w1.grownBy (w1.setCell ⟨w0.heap.size, 0, none⟩ ov') (some w0.heap.size) := grown_set (grown_refl _ _) _ _
  have X1 : Ext w0 w1 := ext_appS h2.x hg (fun k hk => by have := ownZ_ge h2.o k hk; omega)
  have K1 : KT wa w1 := fun b cs fr e => (hg.block b (Array.getElem?_eq_some_iff.1 e).1 fun e2 => own_box h2.o e (by decide) b e2.symm rfl).trans e
  have K2 : KT w1 (w1.setCell ⟨w0.heap.size, 0, none⟩ ov') := fun b cs fr e => (hs.block b (Array.getElem?_eq_some_iff.1 e).1 fun e2 => by
    injection e2 with e2
    subst e2
    rw [hbx] at e
    injection e with e
    injection e with _ e _
    exact absurd e (by decide)).trans e
  have K : KT w (w1.setCell ⟨w0.heap.size, 0, none⟩ ov') := (KT.ext ha).trans (K1.trans K2)
  refine ⟨⟨X1.grown hs X1.size (fun k hk => by cases hk; exact Nat.le_refl _), ?_, own_grown ho hs (fun k a b => own_box ho hbx (by decide) k a b), fun y hy => ?_⟩, K⟩
  · simp [World.setCell, Array.getElem?_modify, hbx]
  · rcases List.mem_append.1 hy with hy | hy
    · exact (h.r y hy).kt K
    · obtain rfl := List.mem_singleton.1 hy
      exact hz.kt K
end
theorem cell_of1 {w : World} {b : Nat} {x : Value} {e : TypeId} (h : w.heap[b]? = some (.cells #[x] e (0, 0))) : w.cell? ⟨b, 0, none⟩ = some x := by simp [World.cell?, h]
theorem froz_of1 {w : World} {b : Nat} {x : Value} {e : TypeId} (h : w.heap[b]? = some (.cells #[x] e (0, 0))) : w.frozen? ⟨b, 0, none⟩ = false := by simp [World.frozen?, h]
theorem acc_pushed {w0 w wa w1 : World} {ov : Value} {zs : List Row} (h : Acc w0 w ov zs) (ha : Ext w wa) (hg : wa.grownBy w1 ov.ownBlock) : w1.cell? ⟨w0.heap.size, 0, none⟩ = some ov ∧ w1.frozen? ⟨w0.heap.size, 0, none⟩ = false := by
  have h2 := h.ext ha
  have hb : w0.heap.size < wa.heap.size := (Array.getElem?_eq_some_iff.1 h2.bx).1
  have hbx := (hg.block _ hb fun e => own_box h2.o h2.bx (by decide) _ e.symm rfl).trans h2.bx
  exact ⟨cell_of1 hbx, froz_of1 hbx⟩
def RetAcc (w0 w : World) (zs : List Row) (yss : List (List Int)) : Ending → World → Prop := fun e w' => e = .returned (.tuple #[]) ∧ ∃ ov' zs', Acc w0 w' ov' zs' ∧ zs'.map Prod.snd = zs.map Prod.snd ++ yss ∧ KT w w'
theorem enters_allowedAll1 : Enters 52 := fun args w => by kernel_rfl
set_option maxHeartbeats 800000 in
theorem i_allowedAll1 (n : Nat) (cs : List (List Int)) (q : Nat) (vc : Value) (b2 b3 : Nat) (w0 w : World) (ov av : Value) (zs : List Row) (a : List Int) (hl : cs.length ≤ 60) (hc : Hid (∀ c ∈ cs, c.length ≤ 1000000 ∧ ∀ l ∈ c, -12 ≤ l ∧ l ≤ 12)) (hq : q ≤ 6)
    (h2 : w0.heap[b2]? = some (.cells #[.int .i64 (n : Int), vc] 28 (0, 0))) (h3 : w0.heap[b3]? = some (.cells #[.int .i64 (q : Int)] 3 (0, 0))) (hcs : RdSS w0 vc cs) (hA : Acc w0 w ov zs) (hr : RowN w (av, a)) (hla : a.length ≤ 1000000) (hzl : zs.length ≤ 1000000) :
    Calls Tryz.prog 52 (#[av] ++ #[.pointer (some ⟨b2, 0, none⟩), .pointer (some ⟨b3, 0, none⟩), .pointer (some ⟨w0.heap.size, 0, none⟩)]) w (RetAcc w0 w zs (if alwB cs q a then [a] else [])) := by
  have HA := hd hA
  have HR := hd hr
  obtain ⟨A, c, rfl, -⟩ := hcs.form
  obtain ⟨B, d, e1⟩ := hr.one
  simp only at e1
  subst e1
  obtain ⟨k0, k1⟩ := blk2 (hA.x.heap h2)
  have k3 := (cell_of1 (hA.x.heap h3))
  have HAL := hd (i_allowed ⟨(n : Int), cs⟩ _ _ q a w ⟨_, rfl, hcs.ext hA.x⟩ hr.rd hl hc hla hq)
  simp only at HAL
  clear hA hr
  show Calls Tryz.prog 52 #[.slice B a.length d, .pointer (some ⟨b2, 0, none⟩), .pointer (some ⟨b3, 0, none⟩), .pointer (some ⟨w0.heap.size, 0, none⟩)] w (RetAcc w0 w zs (if alwB cs q a then [a] else []))
  obtain ⟨p, hp⟩ : ∃ p, alwB cs q a = p := ⟨_, rfl⟩
  rw [hp] at HAL ⊢
  clear hp
  cases p
  · have HE : Hid ((if (false = true) then [a] else []) = ([] : List (List Int))) := hd rfl
    rw [HE.out]
    go_enter Tryz.func52, Tryz.ntmps52
    go_wp2_with fail
    refine HAL.out.mono ?_
    rintro e w1 ⟨rfl, hx1⟩
    have X1 := hd hx1
    clear hx1
    go_wp2
    exact bodyPost_ret (v := .tuple #[]) (by simp [results, Tryz.results52, go_sem]) rfl ⟨rfl, _, zs, HA.out.ext X1.out, (List.append_nil _).symm, KT.ext X1.out⟩
  · have HE : Hid ((if (true = true) then [a] else []) = [a]) := hd rfl
    rw [HE.out]
    go_enter Tryz.func52, Tryz.ntmps52
    go_wp2_with fail
    refine HAL.out.mono ?_
    rintro e w1 ⟨rfl, hx1⟩
    have X1 := hd hx1
    have HA1 := hd (HA.out.ext hx1)
    have HR1 := hd (HR.out.ext hx1)
    obtain ⟨A5, c5, rfl, -⟩ := OutZ.form HA1.out.o
    have k5 := cell_of1 HA1.out.bx
    have f5 := froz_of1 HA1.out.bx
    have hsz : w0.heap.size + 1 ≤ w1.heap.size := (Array.getElem?_eq_some_iff.1 HA1.out.bx).1
    clear hx1
    have HPF := hd (fun (w6 : World) (hg : (w1.alloc (.cells #[.slice B a.length d] 37)).grownBy w6 (Value.slice A5 zs.length c5).ownBlock) => acc_pushed HA1.out (Ext.new _ _) hg)
    go_wp2_with (at_builtin; refine appZ _ (zs := zs) (ys := [(Value.slice B a.length d, a)]) (lo := w0.heap.size + 1) (own_ext HA1.out.o (Ext.new _ _)) (rdZ_at (us := [Value.slice B a.length d]) (heap_n1 _ _) (by simp)) (by intro u hu; obtain rfl := List.mem_singleton.1 hu; rfl) rfl _ _ rfl (by rfl) (by rfl) (by simp; omega) (by rw [World.size_alloc]; omega) ?_; intro v2 w2 ho2 hg2 hb2; obtain ⟨A6, c6, e6, -⟩ := OutZ.form ho2; rw [List.length_append, List.length_singleton] at e6; subst e6; obtain ⟨k6, f6⟩ := HPF.out w2 hg2)
    have hpp := HA1.out.push (Ext.new _ _) ho2 hg2 HR1.out
    exact bodyPost_ret (v := .tuple #[]) (by simp [results, Tryz.results52, go_sem]) rfl ⟨rfl, _, zs ++ [(Value.slice B a.length d, a)], hpp.1, by simp, (KT.ext X1.out).trans hpp.2⟩
set_option maxRecDepth 100000 in
set_option maxHeartbeats 3200000 in
theorem i_allClauses (n : Nat) (cs : List (List Int)) (q : Nat) (vc : Value) (b2 b3 : Nat) (w0 : World) (hn : n ≤ 6) (hl : cs.length ≤ 60) (hc : Hid (∀ c ∈ cs, c.length ≤ 1000000 ∧ ∀ l ∈ c, -12 ≤ l ∧ l ≤ 12)) (hq : q ≤ 6)
    (h2 : w0.heap[b2]? = some (.cells #[.int .i64 (n : Int), vc] 28 (0, 0))) (h3 : w0.heap[b3]? = some (.cells #[.int .i64 (q : Int)] 3 (0, 0))) (hcs : RdSS w0 vc cs) :
    ∀ (d : Nat), d ≤ n → ∀ (a : List Int) (av : Value) (w : World) (ov : Value) (zs0 : List Row), Ris ((n - d : Nat) : Int) a → RowN w (av, a) → Acc w0 w ov zs0 → zs0.length + 3 ^ d ≤ 1000 →
      Calls Tryz.prog 51 #[.int .i64 (n : Int), .int .i64 (((n - d : Nat) : Int) + 1), av, .func (.func 52) #[] #[.pointer (some ⟨b2, 0, none⟩), .pointer (some ⟨b3, 0, none⟩), .pointer (some ⟨w0.heap.size, 0, none⟩)]] w (RetAcc w0 w zs0 ((treeE n d a).filter (alwB cs q))) := by
  intro d
  induction d using Nat.strongRecOn with
  | ind d ih =>
  intro hd1 a av w ov zs0 hra hrow hacc hzl
  have HRA := hd hra
  have HROW := hd hrow
  have HACC := hd hacc
  have hal : a.length ≤ 6 := by have := (hra.mono (show ((n - d : Nat) : Int) ≤ (n : Nat) by omega)).len; omega
  have hpd : 1 ≤ 3 ^ d := Nat.pow_pos (by decide)
  have HDO := hd (i_allowedAll1 n cs q vc b2 b3 w0 w ov av zs0 a hl hc hq h2 h3 hcs hacc hrow (by omega) (by omega))
  obtain ⟨B, cb, eB⟩ := hrow.one
  simp only at eB
  subst eB
  clear hra hrow hacc
  have hge := enters_allowedAll1
  unfold Enters at hge
  have HL := hd hzl
  clear hzl
  go_enter Tryz.func51, Tryz.ntmps51
  go_wp2_with fail
  refine HDO.out.mono ?_
  rintro e w1 ⟨rfl, ov1, zs1, hacc1, hs1, hk1⟩
  have hzl1 : zs1.length + 3 ^ d ≤ 1001 := by
    have e := congrArg List.length hs1
    rw [List.length_append, List.length_map, List.length_map] at e
    have := HL.out
    split at e
    · simp at e; omega
    · simp at e; omega
  have HACC1 := hd hacc1
  have HS1 : Hid (zs1.map Prod.snd ++ (loopE n d a).filter (alwB cs q) = zs0.map Prod.snd ++ (treeE n d a).filter (alwB cs q)) := hd (by
    rw [hs1, List.append_assoc]
    congr 1
    unfold treeE
    cases h : alwB cs q a
    · rw [List.filter_cons_of_neg (by rw [h]; decide)]; rfl
    · rw [List.filter_cons_of_pos h]; rfl)
  have HK1 := hd hk1
  have HL1 := hd hzl1
  clear hacc1 hs1 hk1 hzl1 HDO
  go_wp2
  go_loopw [8] (fun uv wr => ∃ (m e : Nat) (ov : Value) (zs : List Row), 1 ≤ m ∧ m + e = n + 1 ∧ e ≤ d ∧ uv = .int .i64 (m : Int) ∧ Hid (zs.length + 3 ^ e ≤ 1001) ∧ Acc w0 wr ov zs ∧ Hid (zs.map Prod.snd ++ (loopE n e a).filter (alwB cs q) = zs0.map Prod.snd ++ (treeE n d a).filter (alwB cs q)) ∧ KT w wr) (fun uv _ => n + 1 - (intOf uv).toNat)
  case atStart => exact ⟨n - d + 1, d, _, zs1, by omega, by omega, Nat.le_refl _, by simp, HL1, HACC1.out, HS1, HK1.out⟩
  case round =>
    clear HACC1 HS1 HK1 HL1
    obtain ⟨m, e, ovr, zs, hm1, hme, hed, rfl, HLR, haccr, HSR, hkr⟩ := hrel
    have HACCR := hd haccr
    have HKR := hd hkr
    have HROWR := hd (HROW.out.kt hkr)
    clear haccr hkr
    by_cases hlt : m ≤ n
    · obtain ⟨d1, rfl⟩ : ∃ d1, e = d1 + 1 := ⟨e - 1, by omega⟩
      have hd2 : n - d1 = m := by omega
      have hlt' : (m : Int) ≤ (n : Int) := by omega
      have hab : absI (m : Int) = (m : Int) := absI_pos (by omega)
      have HRP : Hid (Ris (m : Int) (a ++ [(m : Int)])) := hd (ris_snoc HRA.out hab (by omega) (by omega))
      have HRM : Hid (Ris (m : Int) (a ++ [-(m : Int)])) := hd (ris_snoc HRA.out (by rw [absI_neg]; exact hab) (by omega) (by omega))
      have HTL : Hid (∀ b, (treeE n d1 b).length = 3 ^ d1) := hd fun b => treeE_len n d1 b
      have hih := ih d1 (by omega) (by omega)
      rw [hd2] at hih
      have IH := hd hih
      have HSS : Hid (zs.map Prod.snd ++ ((treeE n d1 (a ++ [(m : Int)])).filter (alwB cs q) ++ ((treeE n d1 (a ++ [-(m : Int)])).filter (alwB cs q) ++ (loopE n d1 a).filter (alwB cs q))) = zs0.map Prod.snd ++ (treeE n d a).filter (alwB cs q)) := hd (by
        rw [← HSR.out, loopE, List.filter_append, List.filter_append, hd2]; rfl)
      have hl1 := HLR.out
      rw [Nat.pow_succ] at hl1
      have hpp : 1 ≤ 3 ^ d1 := Nat.pow_pos (by decide)
      have hmb : (m : Int) ≤ 6 := by omega
      have hm0 : 1 ≤ (m : Int) := by omega
      have hwm : IntKind.i64.wrap (-(m : Int)) = -(m : Int) := IntWalk.i64_in _ (by omega)
      clear hih ih HSR HLR hd2 hab
      generalize hP : 3 ^ d1 = P at *
      have HPP := hd hP
      clear hP
      obtain ⟨wo, rfl⟩ : ∃ wo : World, wo = wr := ⟨_, rfl⟩
      have HA2 := hd (HROWR.out.rd)
      go_wp2_with fail
      refine (slices_Clone a _ wo HA2.out (by omega)).mono ?_
      rintro e w1 ⟨u1, rfl, hu1, hx1⟩
      have HX1 := hd hx1
      have HU1 := hd hu1
      obtain ⟨A7, c7, e7, -⟩ := OwnI.form hu1
      subst e7
      clear hu1 hx1
      go_wp2_with (at_builtin; refine appI w1 HU1.out rfl _ _ rfl (m : Int) (by rfl) (by rfl) (by omega) HX1.out.size ?_; intro v2 w2 ho2 hg2 hb2; obtain ⟨a2, c2, e2⟩ := some_ownN ho2 (n := a.length + 1) (by simp) (by omega); subst e2)
      have X2 := hd (ext_app HX1.out hg2 (ownI_ge HU1.out))
      have HRW := hd (Or.inr (rowR_own ho2 (by simp)) : RowN w2 (Value.slice (some a2) (a.length + 1) c2, a ++ [(m : Int)]))
      have HAC := hd (HACCR.out.ext X2.out)
      clear ho2 hg2 hb2
      go_wp2_with fail
      refine (IH.out (a ++ [(m : Int)]) _ w2 _ _ HRP.out HRW.out HAC.out (by omega)).mono ?_
      rintro e w3 ⟨rfl, ov3, zs3, hacc3, hs3, hk3⟩
      have HACC3 := hd hacc3
      have hl3 : zs3.length ≤ zs.length + P := by
        have e := congrArg List.length hs3
        rw [List.length_append, List.length_map, List.length_map] at e
        have h1 := List.length_filter_le (alwB cs q) (treeE n d1 (a ++ [(m : Int)]))
        have h2 := HTL.out (a ++ [(m : Int)])
        omega
      have HS3 : Hid (zs3.map Prod.snd ++ (((treeE n d1 (a ++ [-(m : Int)])).filter (alwB cs q) ++ (loopE n d1 a).filter (alwB cs q))) = zs0.map Prod.snd ++ (treeE n d a).filter (alwB cs q)) := hd (by rw [hs3, List.append_assoc]; exact HSS.out)
      have HK3 := hd (HKR.out.trans ((KT.ext X2.out).trans hk3))
      have HROW3 := hd (HROWR.out.kt ((KT.ext X2.out).trans hk3))
      clear hacc3 hs3 hk3 HRW HAC HA2
      obtain ⟨wo, rfl⟩ : ∃ wo : World, wo = w3 := ⟨_, rfl⟩
      have HA2 := hd (HROW3.out.rd)
      go_wp2_with fail
      refine (slices_Clone a _ wo HA2.out (by omega)).mono ?_
      rintro e w1 ⟨u1, rfl, hu1, hx1⟩
      have HX1 := hd hx1
      have HU1 := hd hu1
      obtain ⟨A7, c7, e7, -⟩ := OwnI.form hu1
      subst e7
      clear hu1 hx1
      go_wp2_with (at_builtin; refine appI w1 HU1.out rfl _ _ rfl (-(m : Int)) (by rfl) (by rfl) (by omega) HX1.out.size ?_; intro v2 w2 ho2 hg2 hb2; obtain ⟨a2, c2, e2⟩ := some_ownN ho2 (n := a.length + 1) (by simp) (by omega); subst e2)
      have X2 := hd (ext_app HX1.out hg2 (ownI_ge HU1.out))
      have HRW := hd (Or.inr (rowR_own ho2 (by simp)) : RowN w2 (Value.slice (some a2) (a.length + 1) c2, a ++ [(-(m : Int))]))
      have HAC := hd (HACC3.out.ext X2.out)
      clear ho2 hg2 hb2
      go_wp2_with fail
      refine (IH.out (a ++ [(-(m : Int))]) _ w2 _ _ HRM.out HRW.out HAC.out (by omega)).mono ?_
      rintro e w4 ⟨rfl, ov4, zs4, hacc4, hs4, hk4⟩
      have HACC4 := hd hacc4
      have hl4 : zs4.length ≤ zs3.length + P := by
        have e := congrArg List.length hs4
        rw [List.length_append, List.length_map, List.length_map] at e
        have h1 := List.length_filter_le (alwB cs q) (treeE n d1 (a ++ [(-(m : Int))]))
        have h2 := HTL.out (a ++ [(-(m : Int))])
        omega
      have HS4 : Hid (zs4.map Prod.snd ++ (((loopE n d1 a).filter (alwB cs q))) = zs0.map Prod.snd ++ (treeE n d a).filter (alwB cs q)) := hd (by rw [hs4, List.append_assoc]; exact HS3.out)
      have HK4 := hd (HK3.out.trans ((KT.ext X2.out).trans hk4))
      have HROW4 := hd (HROW3.out.kt ((KT.ext X2.out).trans hk4))
      clear hacc4 hs4 hk4 HRW HAC HA2
      have HLE : Hid (zs4.length + 3 ^ d1 ≤ 1001) := hd (by rw [HPP.out]; omega)
      go_wp2
      go_roundw
      case rel => exact ⟨m + 1, d1, ov4, zs4, by omega, by omega, by omega, by go_num, HLE, HACC4.out, HS4, HK4.out⟩
      case measure => simp [intOf]; omega
    · obtain rfl : e = 0 := by omega
      have hlt' : ¬ (m : Int) ≤ (n : Int) := by omega
      have HSF : Hid (zs.map Prod.snd = zs0.map Prod.snd ++ (treeE n d a).filter (alwB cs q)) := hd (by rw [← HSR.out]; simp [loopE])
      go_wp2
      exact bodyPost_ret (v := .tuple #[]) (by simp [results, Tryz.results51, go_sem]) rfl ⟨rfl, _, zs, HACCR.out, HSF.out, HKR.out⟩
theorem asc_of_sorted {xs : List (List Int)} (hp : xs.Pairwise (fun a b => befL b a = false)) (hn : xs.Nodup) : Asc xs := by
  refine (List.pairwise_and_iff.2 ⟨hp, hn⟩).imp ?_
  rintro a b ⟨h1, h2⟩
  rcases befL_tot h2 with h | h
  · exact h
  · rw [h] at h1; cases h1
def RetAlw (w : World) (xss : List (List Int)) : Ending → World → Prop := fun e w' => ∃ v zs, e = .returned v ∧ OutZ w' w.heap.size v zs ∧ (∀ z ∈ zs, RowN w' z) ∧ zs.map Prod.snd = xss ∧ Ext w w'
set_option maxRecDepth 100000 in
set_option maxHeartbeats 3200000 in
theorem i_allowedAll (n : Nat) (cs : List (List Int)) (q : Nat) (v : Value) (w : World) (hn : n ≤ 6) (hl : cs.length ≤ 60) (hc : Hid (∀ c ∈ cs, c.length ≤ 1000000 ∧ ∀ l ∈ c, -12 ≤ l ∧ l ≤ 12)) (hq : q ≤ 6) (hv : Rd_Cnf w v ⟨(n : Int), cs⟩) :
    Calls Tryz.prog 33 #[v, .int .i64 (q : Int)] w (RetAlw w (insA (allA cs n q))) := by
  obtain ⟨vc, rfl, hC⟩ := hv
  obtain ⟨A, c, rfl, -⟩ := hC.form
  simp only at *
  obtain ⟨W0, hW0⟩ : ∃ W0, W0 = (w.alloc (.cells #[.int .i64 (n : Int), .slice A cs.length c] 28)).alloc (.cells #[.int .i64 (q : Int)] 3) := ⟨_, rfl⟩
  have X0 : Ext w W0 := by rw [hW0]; exact ((Ext.refl w).alloc _).alloc _
  have hs0 : W0.heap.size = w.heap.size + 1 + 1 := by rw [hW0, World.size_alloc, World.size_alloc]
  have hB2 : W0.heap[w.heap.size]? = some (.cells #[.int .i64 (n : Int), .slice A cs.length c] 28 (0, 0)) := by rw [hW0]; exact heap_n2 _ _ _
  have hB3 : W0.heap[w.heap.size + 1]? = some (.cells #[.int .i64 (q : Int)] 3 (0, 0)) := by
    rw [hW0]
    have h := heap_n1 (w.alloc (.cells #[.int .i64 (n : Int), .slice A cs.length c] 28)) (.cells #[.int .i64 (q : Int)] 3)
    rwa [World.size_alloc] at h
  have hAcc : Acc W0 (W0.alloc (.cells #[.slice none 0 0] 22)) (.slice none 0 0) [] := ⟨Ext.new _ _, heap_n1 _ _, own_nil _ _ _ _, fun z hz => by cases hz⟩
  have h0 := i_allClauses n cs q (.slice A cs.length c) w.heap.size (w.heap.size + 1) W0 hn hl hc hq hB2 hB3 (hC.ext X0) n (Nat.le_refl n) [] (.slice none 0 0) _ _ [] (ris_nil _) (.inl ⟨rfl, rfl⟩) hAcc (by have := pow36 hn; simp; omega)
  rw [Nat.sub_self, hs0] at h0
  have HAC := hd h0
  have k2 := blk2 ((Ext.new W0 (.cells #[.slice none 0 0] 22)).heap hB2)
  have hse : W0.alloc (.cells #[.slice none 0 0] 22) = ((w.alloc (.cells #[.int .i64 (n : Int), .slice A cs.length c] 28)).alloc (.cells #[.int .i64 (q : Int)] 3)).alloc (.cells #[.slice none 0 0] 22) := by rw [hW0]
  have HS0 := hd hs0
  have X0 := hd X0
  clear h0 hAcc hC hs0
  rw [hse] at HAC
  have HAR : Hid (∀ b ∈ allA cs n q, Ris (n : Int) b) := hd fun b h => allA_ris h
  have HAN := hd (allA_nodup cs n q)
  have HAL : Hid ((allA cs n q).length ≤ 729) := hd (allA_len hn)
  have HAE : Hid ((treeE n n []).filter (alwB cs q) = allA cs n q) := hd rfl
  generalize allA cs n q = AA at *
  clear hse k2 hB2 hB3 hW0
  go_enter Tryz.func33, Tryz.ntmps33
  go_wp2_with fail
  refine HAC.out.mono ?_
  rintro e w1 ⟨rfl, ov1, zs1, hacc1, hs1, -⟩
  have HACC := hd hacc1
  have hbx := hacc1.bx
  rw [HS0.out] at hbx
  have hs2 : zs1.map Prod.snd = AA := by rw [hs1, HAE.out]; rfl
  have HS1 := hd hs2
  have HL1 : Hid (zs1.length ≤ 729) := hd (by have := HAL.out; rw [← hs2, List.length_map] at this; exact this)
  have HSR := hd (slices_SortRows zs1 ov1 w1 (W0.heap.size + 1) (fun z hz => have hr := HAR.out z.2 (by rw [← hs2]; exact List.mem_map_of_mem hz); ⟨hacc1.r z hz, by have := hr.len; omega, ris_bd hr hn⟩) hacc1.o (by have := HL1.out; omega))
  have k5 := cell_of1 hbx
  obtain ⟨A5, c5, rfl, -⟩ := OutZ.form hacc1.o
  clear hacc1 hs1 hs2 HAC
  go_wp2_with fail
  refine HSR.out.mono ?_
  rintro e w2 ⟨rfl, ys, hperm, hsort, ho2, hg2⟩
  have hb5 := (hg2.block _ (Array.getElem?_eq_some_iff.1 hbx).1 fun e => own_box HACC.out.o hbx (by decide) _ e.symm rfl).trans hbx
  have k6 := cell_of1 hb5
  have HR2 : Hid (∀ z ∈ ys, RowN w2 z) := hd fun z hz => rowN_grown HACC.out.o (HACC.out.r z (hperm.mem_iff.1 hz)) hg2
  have X2 := hd ((X0.out.trans HACC.out.x).grown hg2 (X0.out.trans HACC.out.x).size (fun k hk => by have h := ownZ_ge HACC.out.o k hk; have := X0.out.size; omega))
  have HP : Hid ((ys.map Prod.snd).Perm AA) := hd (by rw [← HS1.out]; exact hperm.map _)
  have HEQ : Hid (ys.map Prod.snd = insA AA) := hd (asc_ext (asc_of_sorted hsort (HP.out.nodup_iff.2 HAN.out)) (asc_insA AA) (fun x => by rw [mem_insA]; exact HP.out.mem_iff))
  have HO2 := hd (own_rebase ho2 (by have := X0.out.size; omega) : OutZ w2 w.heap.size _ ys)
  clear hperm hsort ho2 hg2 hbx hb5 k5
  go_wp2
  go_ret
  exact ⟨_, ys, rfl, HO2.out, HR2.out, HEQ.out, X2.out⟩
end Go.Proofs.YtbdcomkbpapcaaaGreat
