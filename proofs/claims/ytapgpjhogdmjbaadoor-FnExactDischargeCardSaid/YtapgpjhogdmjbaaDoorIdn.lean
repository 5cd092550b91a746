/-
  IdentityProof: steps that are put behind one another, both sides. Conditions: formulas up to 80 letters; the program's table of schemes holds the schemes.
-/
import Derived.Test.YtapgpjhogdmjbaaDoorCas2
import Derived.Test.YtapgpjhogdmjbaaDoorFst
import Derived.Test.YtapgpjhogdmjbaaDoorApp2
namespace Go.Proofs.YtapgpjhogdmjbaaDoor
open Go.RowKit
theorem recCells_appendF : ∀ (rs ts : List Rec), recCells (rs ++ ts) = recCells rs ++ recCells ts
  | [], _ => rfl
  | r :: rs, ts => by simp [recCells, recCells_appendF rs ts]
theorem recCells_oneF : ∀ (rs : List Rec), ∀ u ∈ recCells rs, u.oneCell' = true
  | [], u, h => by simp [recCells] at h
  | r :: rs, u, h => by
    simp only [recCells, List.mem_cons] at h
    rcases h with rfl | rfl | rfl | rfl | h
    · rfl
    · rfl
    · rfl
    · rfl
    · exact recCells_oneF rs u h
abbrev OwnF (w : World) (lo : Nat) (v : Value) (rs : List Rec) : Prop := Own w lo 42 4 v rs.length (recCells rs)
theorem OwnF.form2 {w : World} {lo n : Nat} {v : Value} {rs : List Rec} (h : OwnF w lo v rs) (hn : rs.length = n) : ∃ A c, v = .slice A n c := by
  obtain ⟨_, A, c, rfl, _⟩ := own_rd h
  exact ⟨A, c, by rw [hn]⟩
theorem grown_newF {w w' : World} {row : Option Nat} {o : Obj} (h : (w.alloc o).grownBy w' row) : w.grownBy w' row := grown_trans (grown_ext (Ext.new w o) row) h
def RetF2 (w : World) (rs : List Rec) (b : Bool) : Ending → World → Prop := fun e w' => ∃ u, e = .returned (.tuple #[u, .bool b]) ∧ Own_FregeStepS w' w.heap.size w'.heap.size u rs ∧ Ext w w'
/-- What a call keeps that puts steps behind a slice of the call's own. -/
def KeepF (w w' : World) (lo : Nat) : Prop := (∀ w0, Ext w0 w → w0.heap.size ≤ lo → Ext w0 w') ∧ (∀ lo5 v xs, OwnI w lo5 3 v xs → OwnI w' lo5 3 v xs) ∧ w.heap.size ≤ w'.heap.size
theorem KeepF.refl (w : World) (lo : Nat) : KeepF w w lo := ⟨fun _ h _ => h, fun _ _ _ h => h, Nat.le_refl _⟩
theorem KeepF.ext {w w1 w2 : World} {lo : Nat} (h : KeepF w w1 lo) (hx : Ext w1 w2) : KeepF w w2 lo :=
  ⟨fun w0 a b => (h.1 w0 a b).trans hx, fun lo5 v xs a => own_ext (h.2.1 lo5 v xs a) hx, Nat.le_trans h.2.2 hx.size⟩
theorem KeepF.trans {w w1 w2 : World} {lo : Nat} (h : KeepF w w1 lo) (k : KeepF w1 w2 lo) : KeepF w w2 lo :=
  ⟨fun w0 a b => k.1 w0 (h.1 w0 a b) b, fun lo5 v xs a => k.2.1 lo5 v xs (h.2.1 lo5 v xs a), Nat.le_trans h.2.2 k.2.2⟩
theorem KeepF.app {w w1 w2 : World} {lo : Nat} {v : Value} {rs : List Rec} (h : KeepF w w1 lo) (ho : OwnF w1 lo v rs) (hg : w1.grownBy w2 v.ownBlock) : KeepF w w2 lo :=
  h.trans ⟨fun _ a b => ext_appS a hg (fun g e => Nat.le_trans b (own_blocks ho g e).1), fun _ _ _ a => own_grown a hg (fun _ e1 e2 => own_ne a ho (by decide) e1 e2), hg.size⟩
section
variable {ops : Array Oper} {rest : List Oper} {o : Oper} {a : Act} {Q : Exit → Act → World → Prop}
theorem appF (w : World) {nb : Nat} {v : Value} {rs : List Rec} {base : Nat} (s0 : ByteArray) (x y z : Int) (hown : OwnF w base v rs) (hgd : o.guard = none) (s xx : Operand)
    (ho : o.op = .call { callee := .builtin .append, args := #[s, xx], argTypes := #[26, 26] })
    (hs : a.eval s = v) (hx : a.eval xx = .slice (some ⟨nb, 0, none⟩) 1 1) (hnb : w.heap.size = nb) (hn : rs.length + 1 ≤ 536870912) (hbase : base ≤ w.heap.size)
    (h : ∀ v' w', OwnF w' base v' (rs ++ [⟨s0, x, y, z⟩]) → w.grownBy w' v.ownBlock → wpList Tryd.prog ops Q rest (a.put o.dst v') w') :
    wpList Tryd.prog ops Q (o :: rest) a (w.alloc (.cells #[.string s0, .int .i64 x, .int .i64 y, .int .i64 z] 42)) := by
  subst hnb
  refine wpList_plain hgd fun K hK => wp_app _ s xx 26 ho base 42 Tryd.underlying26 info_fstep (by decide) rfl (by decide) (own_ext hown (Ext.new w _)) (rd_blk (s := 4) (us := recCells [⟨s0, x, y, z⟩]) (blk_new _ rfl) rfl rfl (by unfold maxLen; omega)) (recCells_oneF _) hs hx (by omega) (by simp; omega) fun v' w' h1 h2 h3 => hK _ _ (h v' w' ?_ (grown_newF h2))
  unfold OwnF
  rw [recCells_appendF, List.length_append]
  exact h1
theorem stepF {K : Act → World → Prop} {E : Prop} (w : World) {v src : Value} {rs : List Rec} {base : Nat} (r : Rec) (hown : OwnF w base v rs) (hsrc : Rd w 4 src 1 (recCells [r])) (hgd : o.guard = none) (s x : Operand)
    (ho : o.op = .call { callee := .builtin .append, args := #[s, x], argTypes := #[26, 26] })
    (hs : a.eval s = v) (hx : a.eval x = src) (hn : rs.length + 1 ≤ 536870912) (hbase : base ≤ w.heap.size)
    (h : ∀ v' w', OwnF w' base v' (rs ++ [r]) → w.grownBy w' v.ownBlock → K (a.put o.dst v') w') :
    if Region.wanted o (yielded ops a.tmps) = true then Oper.wp Tryd.prog o a w K Q else E := by
  have hw : Region.wanted o (yielded ops a.tmps) = true := by simp [Region.wanted, hgd]
  rw [if_pos hw]
  exact wp_app w s x 26 ho base 42 Tryd.underlying26 info_fstep (by decide) rfl (by decide) hown hsrc (recCells_oneF _) hs hx (by omega) hbase fun v' w' h1 h2 h3 =>
    h v' w' (by unfold OwnF; rw [recCells_appendF, List.length_append]; exact h1) h2
end
abbrev impF (x y : Fm) : Fm := .bin 62 x y
/-- The steps of the identity proof behind n others. -/
def idR (n : Nat) (A : Fm) : List Rec := [⟨strF (putF A (impF A A) A (schT 2)), 2, 0, 0⟩, ⟨strF (putF A (impF A A) A (schT 1)), 1, 0, 0⟩, ⟨strF (impF (impF A (impF A A)) (impF A A)), -1, (n : Int) + 1, n⟩, ⟨strF (putF A A A (schT 1)), 1, 0, 0⟩, ⟨strF (impF A A), -1, (n : Int) + 3, (n : Int) + 2⟩]
def giveF (rs : List Rec) : Bool := decide (rs.length ≤ 80) && rs.all fun r => decide (r.name.size ≤ 80)
theorem imp_len (x y : Fm) : (txt (impF x y)).length = (txt x).length + (txt y).length + 3 := by simp [txt]; omega
set_option maxHeartbeats 800000 in
theorem s_l24Implies (x y : Fm) (w : World) (hx : (txt x).length ≤ 1048576) (hy : (txt y).length ≤ 1048576) : Calls Tryd.prog 36 #[.string (strF x), .string (strF y)] w (Ret w (.string (strF (impF x y)))) := by
  have HS := hd (strF_bin 62 x y)
  have hsx : (strF x).size ≤ 1048576 := by rw [strF_size]; exact hx
  have hsy : (strF y).size ≤ 1048576 := by rw [strF_size]; exact hy
  have q1 : ¬ 9223372036854775807 < 1 + (strF x).size := by omega
  have q2 : ¬ 9223372036854775807 < 1 + (strF x).size + 1 := by omega
  have q3 : ¬ 9223372036854775807 < 1 + (strF x).size + 1 + (strF y).size := by omega
  have q4 : ¬ 9223372036854775807 < 1 + (strF x).size + 1 + (strF y).size + 1 := by omega
  go_enter Tryd.func36, Tryd.ntmps36
  go_wp2
  go_ret
  exact Ret.mk (congrArg Value.string HS.out)
theorem s_caseF (j : Nat) (hj : j < 10) (x y z : Fm) (hx : (txt x).length ≤ 1000) (hy : (txt y).length ≤ 1000) (hz : (txt z).length ≤ 1000) (w : World) :
    Calls Tryd.prog 35 #[.int .i64 ((j : Int) + 1), .string (strF x), .string (strF y), .string (strF z)] w (RetX w (.string (strF (putF x y z (schT (j + 1)))))) := by
  have := s_l24Case j hj (strF x) (strF y) (strF z) (by rw [strF_size]; exact hx) (by rw [strF_size]; exact hy) (by rw [strF_size]; exact hz) w
  rw [strF_list, strF_list, strF_list, caseL_txt] at this
  exact this
set_option maxRecDepth 100000 in
set_option maxHeartbeats 6400000 in
theorem s_l24Identity (rs : List Rec) (A : Fm) (v : Value) (w : World) (lo : Nat) (h : OwnF w lo v rs) (hlo : lo ≤ w.heap.size) (hl : rs.length ≤ 1000000) (hA : (txt A).length ≤ 300) :
    Calls Tryd.prog 34 #[v, .string (strF A)] w (fun e w' => ∃ u, e = .returned u ∧ OwnF w' lo u (rs ++ idR rs.length A) ∧ KeepF w w' lo) := by
  have h2 := imp_len A A
  have h3 := imp_len A (impF A A)
  have HI1 := hd (fun w => s_l24Implies A A w (by omega) (by omega))
  have HI2 := hd (fun w => s_l24Implies A (impF A A) w (by omega) (by omega))
  have HI3 := hd (fun w => s_l24Implies (impF A (impF A A)) (impF A A) w (by omega) (by omega))
  have HC2 : Hid (∀ w, Calls Tryd.prog 35 #[.int .i64 2, .string (strF A), .string (strF (impF A A)), .string (strF A)] w (RetX w (.string (strF (putF A (impF A A) A (schT 2)))))) := hd fun w => s_caseF 1 (by omega) A (impF A A) A (by omega) (by omega) (by omega) w
  have HC1 : Hid (∀ w, Calls Tryd.prog 35 #[.int .i64 1, .string (strF A), .string (strF (impF A A)), .string (strF A)] w (RetX w (.string (strF (putF A (impF A A) A (schT 1)))))) := hd fun w => s_caseF 0 (by omega) A (impF A A) A (by omega) (by omega) (by omega) w
  have HC0 : Hid (∀ w, Calls Tryd.prog 35 #[.int .i64 1, .string (strF A), .string (strF A), .string (strF A)] w (RetX w (.string (strF (putF A A A (schT 1)))))) := hd fun w => s_caseF 0 (by omega) A A A (by omega) (by omega) (by omega) w
  obtain ⟨n, hn⟩ : ∃ n, rs.length = n := ⟨_, rfl⟩
  have HID : Hid (idR rs.length A = [⟨strF (putF A (impF A A) A (schT 2)), 2, 0, 0⟩, ⟨strF (putF A (impF A A) A (schT 1)), 1, 0, 0⟩, ⟨strF (impF (impF A (impF A A)) (impF A A)), -1, (n : Int) + 1, n⟩, ⟨strF (putF A A A (schT 1)), 1, 0, 0⟩, ⟨strF (impF A A), -1, (n : Int) + 3, (n : Int) + 2⟩]) := hd (by rw [hn]; rfl)
  obtain ⟨B, c, rfl⟩ := OwnF.form2 h hn
  have HN := hd hn
  have HO := hd h
  rw [hn] at hl
  clear h2 h3 h hn hA
  generalize strF (putF A (impF A A) A (schT 2)) = t1 at *
  generalize strF (putF A (impF A A) A (schT 1)) = t2 at *
  generalize strF (impF (impF A (impF A A)) (impF A A)) = t3 at *
  generalize strF (putF A A A (schT 1)) = t4 at *
  generalize strF (impF A (impF A A)) = t6 at *
  generalize strF (impF A A) = t5 at *
  generalize strF A = ta at *
  go_enter Tryd.func34, Tryd.ntmps34
  go_wp2_with fail
  refine (HI1.out _).mono ?_
  rintro e w1 ⟨rfl, rfl⟩
  have HK0 : Hid (KeepF w w lo) := hd (KeepF.refl w lo)
  go_wp2_with fail
  refine (HC2.out _).mono ?_
  rintro e x1 ⟨rfl, hx⟩
  have HY1 := hd (own_ext HO.out hx)
  have HL1 := hd (HK0.out.ext hx)
  clear hx HO HK0
  go_wp2_with (at_builtin; refine appF _ t1 (2) (0) (0) HY1.out rfl _ _ rfl (by rfl) (by rfl) (by simp) (by rw [HN.out]; omega) (by have := HL1.out.2.2; omega) ?_; intro v2 w2 ho hg; have HO1 := hd ho; have HK1 := hd (HL1.out.app HY1.out hg); clear ho hg HL1 HY1)
  refine (HC1.out _).mono ?_
  rintro e x2 ⟨rfl, hx⟩
  have HY2 := hd (own_ext HO1.out hx)
  have HL2 := hd (HK1.out.ext hx)
  clear hx HO1 HK1
  go_wp2_with (at_builtin; refine appF _ t2 (1) (0) (0) HY2.out rfl _ _ rfl (by rfl) (by rfl) (by simp) (by rw [List.length_append, HN.out]; simp; omega) (by have := HL2.out.2.2; omega) ?_; intro v3 w3 ho hg; have HO2 := hd ho; have HK2 := hd (HL2.out.app HY2.out hg); clear ho hg HL2 HY2)
  refine (HI2.out _).mono ?_
  rintro e w1 ⟨rfl, rfl⟩
  go_wp2_with fail
  refine (HI3.out _).mono ?_
  rintro e w1 ⟨rfl, rfl⟩
  go_wp2_with (at_builtin; refine appF _ t3 (-1) ((n : Int) + 1) (n) HO2.out rfl _ _ rfl (by rfl) (by rfl) (by simp) (by rw [List.length_append, List.length_append, HN.out]; simp; omega) (by have := HK2.out.2.2; omega) ?_; intro v4 w4 ho hg; have HO3 := hd ho; have HK3 := hd (HK2.out.app HO2.out hg); clear ho hg HK2 HO2)
  refine (HC0.out _).mono ?_
  rintro e x4 ⟨rfl, hx⟩
  have HY4 := hd (own_ext HO3.out hx)
  have HL4 := hd (HK3.out.ext hx)
  clear hx HO3 HK3
  go_wp2_with (first | (at_builtin; refine appF _ t4 (1) (0) (0) HY4.out rfl _ _ rfl (by rfl) (by rfl) (by simp) (by rw [List.length_append, List.length_append, List.length_append, HN.out]; simp; omega) (by have := HL4.out.2.2; omega) ?_; intro v5 w5 ho hg; have HO4 := hd ho; have HK4 := hd (HL4.out.app HY4.out hg); clear ho hg HL4 HY4) | (at_builtin; refine appF _ t5 (-1) ((n : Int) + 3) ((n : Int) + 2) HO4.out rfl _ _ rfl (by rfl) (by rfl) (by simp) (by rw [List.length_append, List.length_append, List.length_append, List.length_append, HN.out]; simp; omega) (by have := HK4.out.2.2; omega) ?_; intro v6 w6 ho hg; have HO5 := hd ho; have HK5 := hd (HK4.out.app HO4.out hg); clear ho hg HK4 HO4))
  go_ret
  refine ⟨_, rfl, ?_, HK5.out⟩
  have := HO5.out
  rw [HID.out]
  simpa [List.append_assoc] using this
theorem giveF_no {rs : List Rec} (h : giveF rs = false) : 80 < rs.length ∨ ∃ k, ∃ h : k < rs.length, 80 < rs[k].name.size := by
  unfold giveF at h
  rw [Bool.and_eq_false_iff, decide_eq_false_iff_not] at h
  rcases h with h | h
  · exact .inl (by omega)
  · rw [List.all_eq_false] at h
    obtain ⟨r, hr, h2⟩ := h
    obtain ⟨k, hk, rfl⟩ := List.getElem_of_mem hr
    exact .inr ⟨k, hk, by simpa using h2⟩
theorem giveF_yes {rs : List Rec} (h : giveF rs = true) : rs.length ≤ 80 ∧ ∀ r ∈ rs, r.name.size ≤ 80 := by
  unfold giveF at h
  rw [Bool.and_eq_true, decide_eq_true_eq, List.all_eq_true] at h
  exact ⟨h.1, fun r hr => by simpa using h.2 r hr⟩
def RetGive (w : World) (v : Value) (q : Bool) : Ending → World → Prop := fun e w' => match q with
  | true => e = .returned (.tuple #[v, .bool true]) ∧ w = w'
  | false => ∃ u, e = .returned (.tuple #[u, .bool false]) ∧ OwnF w' w.heap.size u [] ∧ Ext w w'
theorem RetGive.yes {w : World} {v : Value} {q : Bool} {e : Ending} {w' : World} (hq : q = true) (h : e = .returned (.tuple #[v, .bool true]) ∧ w = w') : RetGive w v q e w' := by subst hq; exact h
theorem RetGive.no {w : World} {v : Value} {q : Bool} {e : Ending} {w' : World} (hq : q = false) (h : ∃ u, e = .returned (.tuple #[u, .bool false]) ∧ OwnF w' w.heap.size u [] ∧ Ext w w') : RetGive w v q e w' := by subst hq; exact h
set_option maxHeartbeats 1600000 in
theorem s_l24Give (rs : List Rec) (A : Option Addr) (c n : Nat) (w : World) (h : RdRec w (.slice A n c) rs) (hn : rs.length = n) (hl : n ≤ 1000000) :
    Calls Tryd.prog 18 #[.slice A n c] w (RetGive w (.slice A n c) (giveF rs)) := by
  have HN := hd hn
  have HR := hd h
  have HNO := hd (fun e => giveF_no (rs := rs) e)
  have HYE := hd (fun e => giveF_yes (rs := rs) e)
  obtain ⟨q, hq⟩ : ∃ q, giveF rs = q := ⟨_, rfl⟩
  have HQ := hd hq
  rw [hq]
  clear h hq hn
  have HE : Hid (OwnF (w.alloc (.cells #[] 42)) w.heap.size (.slice (some ⟨w.heap.size, 0, none⟩) 0 0) []) := hd (own_lit w _ 42 4 #[] 0 (Nat.le_refl _) (Nat.zero_le _) rfl)
  by_cases h80 : n ≤ 80
  · have g1 : ¬ (80 : Int) < (n : Int) := by omega
    go_enter Tryd.func18, Tryd.ntmps18
    go_wp2
    go_loop [4] (fun i => ∃ k : Nat, k ≤ n ∧ i = .int .i64 (k : Int) ∧ Hid (∀ j, ∀ h : j < rs.length, j < k → rs[j].name.size ≤ 80)) (fun i => n - (intOf i).toNat)
    case atStart => exact ⟨0, by omega, rfl, hd fun j h h2 => by omega⟩
    case round =>
      obtain ⟨k, hk, rfl, HS⟩ := hrel
      by_cases hlt : k < n
      · have hlt' : k < rs.length := by rw [HN.out]; exact hlt
        obtain ⟨a, rfl, c0, c1, c2, c3⟩ := RdRec.at_ HR hlt'
        have HKS : Hid (∀ j, ∀ h : j < rs.length, j < k + 1 → (j < k ∨ j = k)) := hd fun j h h2 => by omega
        obtain ⟨s, hs⟩ : ∃ s, rs[k].name = s := ⟨_, rfl⟩
        have HSS := hd hs
        rw [hs] at c0
        clear hs
        by_cases h2 : s.size ≤ 80
        · have g2 : ¬ (80 : Int) < (s.size : Int) := by omega
          go_wp2
          go_round
          case rel => exact ⟨k + 1, by omega, by go_num, hd fun j h h3 => by
            rcases HKS.out j h h3 with h4 | rfl
            · exact HS.out j h h4
            · rw [HSS.out]; exact h2⟩
          case measure => simp [intOf]; omega
        · have g2 : (80 : Int) < (s.size : Int) := by omega
          have HF : Hid (q = false) := hd (by
            cases q
            · rfl
            · exact absurd ((HYE.out HQ.out).2 _ (List.getElem_mem hlt')) (by rw [HSS.out]; exact h2))
          go_wp2
          go_ret2
          exact RetGive.no HF.out ⟨_, rfl, HE.out, Ext.new _ _⟩
      · have HF : Hid (q = true) := hd (by
          cases q
          · rcases HNO.out HQ.out with h | ⟨j, hj, h⟩
            · rw [HN.out] at h; omega
            · have := HS.out j hj (by have := HN.out; omega); omega
          · rfl)
        go_wp2
        go_ret2
        exact RetGive.yes HF.out ⟨rfl, rfl⟩
  · have g1 : (80 : Int) < (n : Int) := by omega
    have HF : Hid (q = false) := hd (by
      cases q
      · rfl
      · have := (HYE.out HQ.out).1; rw [HN.out] at this; omega)
    go_enter Tryd.func18, Tryd.ntmps18
    go_wp2
    go_ret2
    exact RetGive.no HF.out ⟨_, rfl, HE.out, Ext.new _ _⟩
end Go.Proofs.YtapgpjhogdmjbaaDoor
