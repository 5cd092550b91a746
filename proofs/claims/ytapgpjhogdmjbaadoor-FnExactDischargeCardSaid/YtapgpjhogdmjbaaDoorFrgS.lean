/-
  Discharge, the reference: matching a scheme. Condition: texts up to 2^20.
-/
import Derived.Test.YtapgpjhogdmjbaaDoorFrgP
import Derived.Test.YtapgpjhogdmjbaaDoorFmQ
import Derived.Test.YtapgpjhogdmjbaaDoorIsFm
namespace Go.Proofs.YtapgpjhogdmjbaaDoor
open Go.RowKit Go.Sort
def letU : List UInt8 → Bool
  | [c] => letB c
  | _ => false
theorem letU_txt : ∀ f : Fm, letU (txt f) = letF f
  | .leaf _ => rfl
  | .neg a => by
    show letU (126 :: txt a) = false
    match h : txt a with
    | [] => have := txt_pos a; rw [h] at this; simp at this
    | _ :: _ => rfl
  | .bin o a b => by
    show letU (40 :: (txt a ++ o :: (txt b ++ [41]))) = false
    match h : txt a with
    | [] => rfl
    | _ :: _ => rfl
theorem s_l22LetterU (s : ByteArray) (w : World) : Calls Tryd.prog 61 #[.string s] w (Ret w (.bool (letU s.data.toList))) := by
  by_cases h1 : s.size = 1
  · have hl : s.data.toList.length = 1 := by rw [← h1]; rfl
    obtain ⟨c, hc⟩ := List.length_eq_one_iff.1 hl
    have h0 : 0 < s.size := by omega
    have hg : s[0] = c := get_of_list (l := []) (r := []) hc h0
    have hgn : s[0].toNat = c.toNat := by rw [hg]
    have HL : Hid (letU s.data.toList = (decide (97 ≤ c.toNat) && decide (c.toNat ≤ 102))) := hd (by rw [hc]; rfl)
    have hs1 : (s.size : Int) = 1 := by omega
    clear hl hc hg h1
    generalize c.toNat = n at *
    by_cases g1 : 97 ≤ n
    · by_cases g2 : n ≤ 102
      · have e1 : (97 : Int) ≤ (n : Int) := by omega
        have e2 : (n : Int) ≤ 102 := by omega
        rw [decide_eq_true g1, decide_eq_true g2] at HL
        clear g1 g2
        go_enter Tryd.func61, Tryd.ntmps61
        go_wp2
        go_ret
        exact Ret.mk (by rw [HL.out]; rfl)
      · have e1 : (97 : Int) ≤ (n : Int) := by omega
        have e2 : ¬ (n : Int) ≤ 102 := by omega
        rw [decide_eq_true g1, decide_eq_false g2] at HL
        clear g1 g2
        go_enter Tryd.func61, Tryd.ntmps61
        go_wp2
        go_ret
        exact Ret.mk (by rw [HL.out]; rfl)
    · have e1 : ¬ (97 : Int) ≤ (n : Int) := by omega
      rw [decide_eq_false g1, Bool.false_and] at HL
      clear g1
      go_enter Tryd.func61, Tryd.ntmps61
      go_wp2
      go_ret
      exact Ret.mk (by rw [HL.out]; rfl)
  · have HL : Hid (letU s.data.toList = false) := hd (by
      have hl : s.data.toList.length ≠ 1 := by intro e; exact h1 (by rw [← e]; rfl)
      match hh : s.data.toList, hl with
      | [], _ => rfl
      | [c], hl => exact absurd rfl hl
      | c :: d :: r, _ => rfl)
    have e1 : ((s.size : Int) == 1) = false := by simp; omega
    have e2 : ¬ (s.size : Int) = 1 := by omega
    clear h1
    go_enter Tryd.func61, Tryd.ntmps61
    go_wp2
    go_ret
    exact Ret.mk (by rw [HL.out]; rfl)
theorem s_l22LetterF (f : Fm) (w : World) : Calls Tryd.prog 61 #[.string (strF f)] w (Ret w (.bool (letF f))) := by
  have := s_l22LetterU (strF f) w
  rw [strF_list, letU_txt] at this
  exact this
abbrev OwnT (w : World) (lo : Nat) (v : Value) (xs : List (List UInt8)) : Prop := Own w lo 9 1 v xs.length (strs xs)
theorem strsT_one (xs : List (List UInt8)) : ∀ u ∈ strs xs, u.oneCell' = true := by
  intro u hu
  obtain ⟨x, _, rfl⟩ := List.mem_map.1 hu
  rfl
section
variable {w : World} {ops : Array Oper} {rest : List Oper} {o : Oper} {a : Act} {Q : Exit → Act → World → Prop}
/-- append(v, src...), strings. -/
theorem appT (w : World) {v src : Value} {xs ys : List (List UInt8)} {base : Nat} (hown : OwnT w base v xs) (hsrc : Rd_StringS w src ys) (hgd : o.guard = none) (s x : Operand)
    (ho : o.op = .call { callee := .builtin .append, args := #[s, x], argTypes := #[22, 22] })
    (hs : a.eval s = v) (hx : a.eval x = src) (hn : xs.length + ys.length ≤ 2147483648) (hbase : base ≤ w.heap.size)
    (h : ∀ v' w', OwnT w' base v' (xs ++ ys) → w.grownBy w' v.ownBlock → wpList Tryd.prog ops Q rest (a.put o.dst v') w') :
    wpList Tryd.prog ops Q (o :: rest) a w :=
  wpList_plain hgd fun K hK => wp_app w s x 22 ho base 9 Tryd.underlying22 info_string (by decide) rfl (by decide) hown hsrc (strsT_one _) hs hx hn hbase fun v' w' h1 h2 _ =>
    hK _ _ (h v' w' (by unfold OwnT; rw [show strs (xs ++ ys) = strs xs ++ strs ys by simp [strs], List.length_append]; exact h1) h2)
end
abbrev MatC (f y : Fm) : Prop := ∀ (st : List (List UInt8)) (v : Value) (w : World), st.length = 3 → Rd_StringS w v st →
    Calls Tryd.prog 58 #[.string (strF f), .string (strF y), v] w (fun e w' => ∃ u, e = .returned (.tuple #[u, .bool (matF f y st).2]) ∧ Ext w w' ∧ ((matF f y st).2 = true → Rd_StringS w' u (matF f y st).1))
set_option maxRecDepth 100000 in
theorem mat_let (j : Nat) (hj : j < 3) (y : Fm) : MatC (.leaf (UInt8.ofNat (97 + j))) y := by
  intro st v w hl h
  have hn : (UInt8.ofNat (97 + j)).toNat = 97 + j := UInt8.toNat_ofNat_of_lt' (by show _ < 256; omega)
  have HL : Hid (∀ w, Calls Tryd.prog 61 #[.string (strF (.leaf (UInt8.ofNat (97 + j))))] w (Ret w (.bool true))) := hd fun w => by
    have := s_l22LetterF (.leaf (UInt8.ofNat (97 + j))) w
    rw [show letF (.leaf (UInt8.ofNat (97 + j))) = true by show (decide (97 ≤ (UInt8.ofNat (97 + j)).toNat) && decide ((UInt8.ofNat (97 + j)).toNat ≤ 102)) = true; rw [hn, decide_eq_true (by omega), decide_eq_true (by omega)]; rfl] at this
    exact this
  obtain ⟨t, ht⟩ : ∃ t, st[j]'(by omega) = t := ⟨_, rfl⟩
  have hM : matF (.leaf (UInt8.ofNat (97 + j))) y st = if t = [] then (st.set j (txt y), true) else (st, decide (t = txt y)) := by
    unfold matF
    rw [if_pos (by unfold letB; rw [hn, decide_eq_true (by omega), decide_eq_true (by omega)]; rfl), hn, show 97 + j - 97 = j by omega, List.getD_eq_getElem?_getD, List.getElem?_eq_getElem (by omega), Option.getD_some, ht]
  have h0 : 0 < (strF (.leaf (UInt8.ofNat (97 + j)))).size := by rw [strF_size]; simp [txt]
  have hg : (strF (.leaf (UInt8.ofNat (97 + j))))[0] = UInt8.ofNat (97 + j) := get_of_list (l := []) (r := []) (by rw [strF_list]; rfl) h0
  have hgn : (strF (.leaf (UInt8.ofNat (97 + j))))[0].toNat = 97 + j := by rw [hg, hn]
  have w1 : IntKind.u8.wrap (97 + (j : Int) - 97) = (j : Int) := by rw [show 97 + (j : Int) - 97 = (j : Int) by omega]; exact IntWalk.u8_in _ (by omega)
  have w2 : IntKind.i64.wrap (j : Int) = (j : Int) := IntWalk.i64_in _ (by omega)
  obtain ⟨A, c, rfl, h1, h2, ha⟩ := h.form
  obtain ⟨a, rfl, hc0⟩ := Rd_StringS.at_ ha (k := j) (by omega)
  rw [ht] at hc0
  have HM := hd hM
  have HST := hd hl
  have HY := hd (strF_list y)
  rw [hl] at h1 ha ⊢
  have HR := ha
  have hj0 : (0 : Int) ≤ (j : Int) := by omega
  have hj1 : (j : Int) < 3 := by omega
  clear ht h hM hn hg ha hl
  generalize strF (.leaf (UInt8.ofNat (97 + j))) = s at *
  generalize txt y = ty at *
  generalize strF y = sy at *
  by_cases he : t = []
  · rw [if_pos he] at HM
    have he1 : t.isEmpty = true := by rw [he]; rfl
    have HE : Hid (OwnT (w.alloc (.cells #[] 9)) w.heap.size (.slice (some ⟨w.heap.size, 0, none⟩) 0 0) []) := hd (own_lit w _ 9 1 #[] 0 (Nat.le_refl _) (Nat.zero_le _) rfl)
    have HRX := hd (HR.out.ext (Ext.new w (.cells #[] 9)))
    clear he
    go_enter Tryd.func58, Tryd.ntmps58
    go_wp2_with (first
      | (go_at_call 61; refine (HL.out _).mono ?_; rintro e w1 ⟨rfl, rfl⟩)
      | (at_builtin; refine appT _ HE.out HRX.out rfl _ _ rfl (by rfl) (by rfl) (by rw [HST.out]; simp) (by simp) ?_
         intro v' w1 ho1 hg1
         have ho2 : Own w1 w.heap.size 9 1 v' 3 (strs st) := by
           have := ho1
           rw [List.nil_append] at this
           unfold OwnT at this
           rw [HST.out] at this
           exact this
         rcases own_form ho2 with ⟨_, h0, _⟩ | ⟨g, cap, rfl, hgb, hgl, hcp, hcm⟩
         · exact absurd h0 (by decide)
         obtain ⟨⟨u0, hcj⟩, hfj, hst⟩ := own_store ho2 (k := j) hj
         have HX1 : Hid (Ext w w1) := hd (ext_appS (Ext.new _ _) hg1 (fun g hg => by cases hg; exact Nat.le_refl _))
         have HX2 : Hid (Ext w (w1.setCell ⟨g, j, none⟩ (.string sy))) := hd (ext_appS (v := .slice (some ⟨g, 0, none⟩) 0 0) HX1.out (grown_set (grown_refl _ _) j _) (fun b e => by cases e; exact hgb))
         have HO : Hid (Rd_StringS (w1.setCell ⟨g, j, none⟩ (.string sy)) (.slice (some ⟨g, 0, none⟩) 3 cap) (st.set j ty)) := hd (by
           have := own_rd (hst.out (.string sy))
           rw [← enc_of sy, HY.out] at this
           unfold Rd_StringS strs
           rw [List.length_set, HST.out, List.map_set]
           rw [← enc_of sy, HY.out]
           exact this)
         clear ho1 ho2 hg1 hst))
    go_ret2
    refine ⟨_, by rw [HM.out]; rfl, HX2.out, fun _ => ?_⟩
    rw [HM.out]
    exact HO.out
  · rw [if_neg he] at HM
    have he1 : t.isEmpty = false := by simp [he]
    have HQ : Hid ((t == sy.toList) = decide (t = ty)) := hd (by rw [Lib.toList_data, HY.out]; rw [Bool.eq_iff_iff]; simp)
    clear he
    go_enter Tryd.func58, Tryd.ntmps58
    go_wp2_with fail
    refine (HL.out _).mono ?_
    rintro e w1 ⟨rfl, rfl⟩
    go_wp2
    go_region_law (fail)
    all_goals
      go_wp2
      go_ret2
      exact ⟨_, by rw [HM.out, ← HQ.out]; rfl, (Ext.refl w).drew, fun _ => by rw [HM.out]; exact HR.out.ext (Ext.refl w).drew⟩
def HeadC (f y : Fm) : Prop := (∀ w, Calls Tryd.prog 61 #[.string (strF f)] w (Ret w (.bool false))) ∧ (∀ w, Calls Tryd.prog 62 #[.string (strF f)] w (RetQ w (.tuple #[.int .u8 (opF f).toNat, .string (kidA f), .string (kidB f)]))) ∧ (∀ w, Calls Tryd.prog 62 #[.string (strF y)] w (RetQ w (.tuple #[.int .u8 (opF y).toNat, .string (kidA y), .string (kidB y)])))
theorem head_ok {f y : Fm} (hl : letF f = false) (hf : WfF f = true) (hy : WfF y = true) (lf : (txt f).length ≤ 1048576) (ly : (txt y).length ≤ 1048576) : HeadC f y :=
  ⟨fun w => by have := s_l22LetterF f w; rw [hl] at this; exact this, fun w => s_l22Parts f hf lf w, fun w => s_l22Parts y hy ly w⟩
set_option maxRecDepth 100000 in
theorem mat_ne (f y : Fm) (H : Hid (HeadC f y)) (hne : (opF f).toNat ≠ (opF y).toNat) (hm : ∀ st, matF f y st = (st, false)) : MatC f y := by
  intro st v w hl h
  have HM := hd (hm st)
  have HX := hd h
  obtain ⟨A, c, rfl, -, -, -⟩ := h.form
  rw [hl] at HX ⊢
  have hq : (((opF f).toNat : Int) != ((opF y).toNat : Int)) = true := by simp; omega
  clear h hl hm hne
  go_enter Tryd.func58, Tryd.ntmps58
  go_wp2_with fail
  refine (H.out.1 _).mono ?_
  rintro e w1 ⟨rfl, rfl⟩
  go_wp2_with fail
  refine (H.out.2.1 _).mono ?_
  rintro e w1 ⟨rfl, n1, rfl⟩
  go_wp2_with fail
  refine (H.out.2.2 _).mono ?_
  rintro e w1 ⟨rfl, n2, rfl⟩
  go_wp2
  go_ret2
  exact ⟨_, by rw [HM.out]; rfl, ext_drewN _ _, fun e => by rw [HM.out] at e; cases e⟩
theorem strF_ne (f : Fm) : (strF f).toList.isEmpty = false := by
  rw [Lib.toList_data, strF_list]
  have := txt_pos f
  match h : txt f with
  | [] => rw [h] at this; simp at this
  | _ :: _ => rfl
set_option maxRecDepth 100000 in
theorem mat_con (c : UInt8) (y : Fm) (H : Hid (HeadC (.leaf c) y)) (he : c.toNat = (opF y).toNat) (hm : ∀ st, matF (.leaf c) y st = (st, true)) : MatC (.leaf c) y := by
  intro st v w hl h
  have HM := hd (hm st)
  have HX := hd h
  obtain ⟨A, cc, rfl, -, -, -⟩ := h.form
  rw [hl] at HX ⊢
  have hq : ((c.toNat : Int) != ((opF y).toNat : Int)) = false := by simp; omega
  have hz : (ByteArray.empty).toList.isEmpty = true := by rw [Lib.toList_data]; rfl
  have H1 : Hid (∀ w, Calls Tryd.prog 62 #[.string (strF (.leaf c))] w (RetQ w (.tuple #[.int .u8 c.toNat, .string .empty, .string .empty]))) := hd H.out.2.1
  clear h hl hm he
  go_enter Tryd.func58, Tryd.ntmps58
  go_wp2_with fail
  refine (H.out.1 _).mono ?_
  rintro e w1 ⟨rfl, rfl⟩
  go_wp2_with fail
  refine (H1.out _).mono ?_
  rintro e w1 ⟨rfl, n1, rfl⟩
  go_wp2_with fail
  refine (H.out.2.2 _).mono ?_
  rintro e w1 ⟨rfl, n2, rfl⟩
  go_wp2
  go_ret2
  exact ⟨_, by rw [HM.out]; rfl, ext_drewN _ _, fun e => by rw [HM.out]; exact HX.out.ext (ext_drewN _ _)⟩
set_option maxRecDepth 100000 in
theorem mat_neg (a b : Fm) (H : Hid (HeadC (.neg a) (.neg b))) (HREC : Hid (MatC a b)) : MatC (.neg a) (.neg b) := by
  intro st v w hl h
  have HX := hd h
  have HR := hd (fun n => HREC.out st v (w.drewN n) hl (h.ext (ext_drewN _ _)))
  have HM : Hid (matF (.neg a) (.neg b) st = matF a b st) := hd rfl
  obtain ⟨A, cc, rfl, -, -, -⟩ := h.form
  rw [hl] at HX HR ⊢
  have hz : (ByteArray.empty).toList.isEmpty = true := by rw [Lib.toList_data]; rfl
  have hza := strF_ne a
  have H1 : Hid (∀ w, Calls Tryd.prog 62 #[.string (strF (.neg a))] w (RetQ w (.tuple #[.int .u8 126, .string (strF a), .string .empty]))) := hd H.out.2.1
  have H2 : Hid (∀ w, Calls Tryd.prog 62 #[.string (strF (.neg b))] w (RetQ w (.tuple #[.int .u8 126, .string (strF b), .string .empty]))) := hd H.out.2.2
  clear h hl HREC
  go_enter Tryd.func58, Tryd.ntmps58
  go_wp2_with fail
  refine (H.out.1 _).mono ?_
  rintro e w1 ⟨rfl, rfl⟩
  go_wp2_with fail
  refine (H1.out _).mono ?_
  rintro e w1 ⟨rfl, n1, rfl⟩
  go_wp2_with fail
  refine (H2.out _).mono ?_
  rintro e w1 ⟨rfl, n2, rfl⟩
  go_wp2_with fail
  refine (HR.out _).mono ?_
  rintro e w1 ⟨u, rfl, hx, hr⟩
  have HX1 := hd hx
  have HR1 := hd hr
  clear hx hr
  obtain ⟨q, hq⟩ : ∃ q, (matF a b st).2 = q := ⟨_, rfl⟩
  rw [hq]
  cases q
  · go_wp2
    go_ret2
    exact ⟨_, by rw [HM.out, hq]; rfl, (ext_drewN _ _).trans HX1.out, fun e => by rw [HM.out]; exact HR1.out (by rw [← HM.out]; exact e)⟩
  · go_wp2
    go_ret2
    exact ⟨_, by rw [HM.out, hq]; rfl, (ext_drewN _ _).trans HX1.out, fun e => by rw [HM.out]; exact HR1.out (by rw [← HM.out]; exact e)⟩
set_option maxRecDepth 100000 in
theorem mat_bin (o : UInt8) (a b p q : Fm) (H : Hid (HeadC (.bin o a b) (.bin o p q))) (HA : Hid (MatC a p)) (HB : Hid (MatC b q)) : MatC (.bin o a b) (.bin o p q) := by
  intro st v w hl h
  have HR := hd (fun n => HA.out st v (w.drewN n) hl (h.ext (ext_drewN _ _)))
  have HM : Hid (matF (.bin o a b) (.bin o p q) st = if (matF a p st).2 then matF b q (matF a p st).1 else (st, false)) := hd (by rw [matF, if_pos rfl])
  have HL2 : Hid ((matF a p st).1.length = 3) := hd (by rw [matF_len]; exact hl)
  obtain ⟨A, cc, rfl, -, -, -⟩ := h.form
  rw [hl] at HR ⊢
  have hz : (ByteArray.empty).toList.isEmpty = true := by rw [Lib.toList_data]; rfl
  have hza := strF_ne a
  have hzb := strF_ne b
  have H1 : Hid (∀ w, Calls Tryd.prog 62 #[.string (strF (.bin o a b))] w (RetQ w (.tuple #[.int .u8 o.toNat, .string (strF a), .string (strF b)]))) := hd H.out.2.1
  have H2 : Hid (∀ w, Calls Tryd.prog 62 #[.string (strF (.bin o p q))] w (RetQ w (.tuple #[.int .u8 o.toNat, .string (strF p), .string (strF q)]))) := hd H.out.2.2
  clear h hl
  go_enter Tryd.func58, Tryd.ntmps58
  go_wp2_with fail
  refine (H.out.1 _).mono ?_
  rintro e w1 ⟨rfl, rfl⟩
  go_wp2_with fail
  refine (H1.out _).mono ?_
  rintro e w1 ⟨rfl, n1, rfl⟩
  go_wp2_with fail
  refine (H2.out _).mono ?_
  rintro e w1 ⟨rfl, n2, rfl⟩
  go_wp2_with fail
  refine (HR.out _).mono ?_
  rintro e w1 ⟨u, rfl, hx, hr⟩
  have HX1 := hd ((ext_drewN w (n1 + n2)).trans hx)
  have HR1 := hd hr
  clear hx hr HR
  cases g : (matF a p st).2
  · rw [g, if_neg (by decide)] at HM
    clear g HR1
    go_wp2
    go_ret2
    exact ⟨_, by rw [HM.out]; rfl, HX1.out, fun e => by rw [HM.out] at e; cases e⟩
  · rw [g, if_pos rfl] at HM
    have HR2 := hd (HR1.out g)
    clear g HR1
    generalize (matF a p st).1 = st2 at *
    have HC := hd (HB.out st2 u w1 HL2.out HR2.out)
    go_wp2_with fail
    refine HC.out.mono ?_
    rintro e w2 ⟨u2, rfl, hx2, hr2⟩
    have HX2 := hd (HX1.out.trans hx2)
    have HR3 := hd hr2
    clear hx2 hr2
    go_wp2
    go_ret2
    exact ⟨_, by rw [HM.out]; rfl, HX2.out, fun e => by rw [HM.out]; exact HR3.out (by rw [← HM.out]; exact e)⟩
theorem toNat_ne {a b : UInt8} (h : a ≠ b) : a.toNat ≠ b.toNat := fun e => h (UInt8.toNat_inj.1 e)
theorem isOp_or {o : UInt8} (h : isOp o = true) : o = 38 ∨ o = 124 ∨ o = 62 := by unfold isOp at h; simpa [or_assoc] using h
theorem lf_ne_op {d o : UInt8} (hd : isLf d = true) (ho : isOp o = true) : d ≠ o := by
  rintro rfl
  rcases isOp_or ho with rfl | rfl | rfl <;> exact absurd hd (by decide)
theorem lf_ne_neg {d : UInt8} (hd : isLf d = true) : d ≠ 126 := by rintro rfl; exact absurd hd (by decide)
theorem op_ne_neg {o : UInt8} (ho : isOp o = true) : o ≠ 126 := by rcases isOp_or ho with rfl | rfl | rfl <;> decide
theorem mat_const (c : UInt8) (hb : letB c = false) (y : Fm) (hc : isLf c = true) (hy : WfF y = true) (ly : (txt y).length ≤ 1000000) : MatC (.leaf c) y := by
  have H := hd (head_ok (f := .leaf c) (y := y) hb hc hy (by simp [txt]) (by omega))
  cases y with
  | leaf d =>
    by_cases e : c = d
    · exact mat_con c _ H (by rw [e]; rfl) fun st => by unfold matF; rw [hb, if_neg (by decide), e]; simp
    · exact mat_ne _ _ H (toNat_ne e) fun st => by unfold matF; rw [hb, if_neg (by decide)]; simp [e]
  | neg b => exact mat_ne _ _ H (toNat_ne (lf_ne_neg hc)) fun st => by unfold matF; rw [hb, if_neg (by decide)]
  | bin o p q =>
    have hy' : (isOp o && (WfF p && WfF q)) = true := hy
    rw [Bool.and_eq_true] at hy'
    exact mat_ne _ _ H (toNat_ne (lf_ne_op hc hy'.1)) fun st => by unfold matF; rw [hb, if_neg (by decide)]
theorem s_l24Match : ∀ (f y : Fm), WfF f = true → abcF f = true → WfF y = true → (txt f).length ≤ 1000000 → (txt y).length ≤ 1000000 → MatC f y
  | .leaf c, y, hf, ha, hy, _, ly => by
    rcases abc_let ha with rfl | rfl | rfl | rfl | rfl
    · exact mat_let 0 (by decide) y
    · exact mat_let 1 (by decide) y
    · exact mat_let 2 (by decide) y
    · exact mat_const 48 (by decide) y hf hy ly
    · exact mat_const 49 (by decide) y hf hy ly
  | .neg a, .neg b, hf, ha, hy, lf, ly => mat_neg a b (hd (head_ok rfl hf hy (by omega) (by omega))) (hd (s_l24Match a b hf ha hy (by simp [txt] at lf; omega) (by simp [txt] at ly; omega)))
  | .neg a, .leaf d, hf, _, hy, lf, ly => mat_ne _ _ (hd (head_ok rfl hf hy (by omega) (by omega))) (toNat_ne (lf_ne_neg hy).symm) fun _ => rfl
  | .neg a, .bin o p q, hf, _, hy, lf, ly => by
    have hy' : (isOp o && (WfF p && WfF q)) = true := hy
    rw [Bool.and_eq_true] at hy'
    exact mat_ne _ _ (hd (head_ok rfl hf hy (by omega) (by omega))) (toNat_ne (op_ne_neg hy'.1).symm) fun _ => rfl
  | .bin o a b, .leaf d, hf, _, hy, lf, ly => by
    have hf' : (isOp o && (WfF a && WfF b)) = true := hf
    rw [Bool.and_eq_true] at hf'
    exact mat_ne _ _ (hd (head_ok rfl hf hy (by omega) (by omega))) (toNat_ne (lf_ne_op hy hf'.1).symm) fun _ => rfl
  | .bin o a b, .neg d, hf, _, hy, lf, ly => by
    have hf' : (isOp o && (WfF a && WfF b)) = true := hf
    rw [Bool.and_eq_true] at hf'
    exact mat_ne _ _ (hd (head_ok rfl hf hy (by omega) (by omega))) (toNat_ne (op_ne_neg hf'.1)) fun _ => rfl
  | .bin o a b, .bin o' p q, hf, ha, hy, lf, ly => by
    have hf' : (isOp o && (WfF a && WfF b)) = true := hf
    have hy' : (isOp o' && (WfF p && WfF q)) = true := hy
    have ha' : (abcF a && abcF b) = true := ha
    rw [Bool.and_eq_true, Bool.and_eq_true] at hf' hy'
    rw [Bool.and_eq_true] at ha'
    by_cases e : o = o'
    · subst e
      have l1 : (txt a).length ≤ 1000000 ∧ (txt b).length ≤ 1000000 := by simp [txt] at lf; omega
      have l2 : (txt p).length ≤ 1000000 ∧ (txt q).length ≤ 1000000 := by simp [txt] at ly; omega
      exact mat_bin o a b p q (hd (head_ok rfl hf hy (by omega) (by omega))) (hd (s_l24Match a p hf'.2.1 ha'.1 hy'.2.1 l1.1 l2.1)) (hd (s_l24Match b q hf'.2.2 ha'.2 hy'.2.2 l1.2 l2.2))
    · exact mat_ne _ _ (hd (head_ok rfl hf hy (by omega) (by omega))) (toNat_ne e) fun _ => by unfold matF; rw [if_neg e]
end Go.Proofs.YtapgpjhogdmjbaaDoor
