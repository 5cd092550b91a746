/-
  SidesOf of both sides. Conditions: sizes up to 2^20.
-/
import Derived.Test.YthiflbcodbigbaaSign
namespace Go.Proofs.Ythiflbcodbigbaa
open Go.RowKit
def sideL (f : Cnf) (k : Int) : List Int := if askB f k then leftV f k.toNat f.n.toNat else []
def sideR (f : Cnf) (k : Int) : List Int := if askB f k then rightV f k.toNat f.n.toNat else []
def sideS (f : Cnf) (k : Int) : List Int := if askB f k then bothV f k.toNat f.n.toNat else []
theorem sideL_bd (f : Cnf) (k : Int) : Bd_IntS (sideL f k) := by
  unfold sideL Bd_IntS
  split
  · rename_i h; have := filt12 (ask_inv h).1 (fun v => inS (f.cs.take k.toNat) v && !inS (f.cs.drop k.toNat) v); unfold leftV; omega
  · simp
theorem sideR_bd (f : Cnf) (k : Int) : Bd_IntS (sideR f k) := by
  unfold sideR Bd_IntS
  split
  · rename_i h; have := filt12 (ask_inv h).1 (fun v => !inS (f.cs.take k.toNat) v && inS (f.cs.drop k.toNat) v); unfold rightV; omega
  · simp
theorem sideS_bd (f : Cnf) (k : Int) : Bd_IntS (sideS f k) := by
  unfold sideS Bd_IntS
  split
  · rename_i h; have := filt12 (ask_inv h).1 (fun v => inS (f.cs.take k.toNat) v && inS (f.cs.drop k.toNat) v); unfold bothV; omega
  · simp
/-- The marked list stays in the call's own blocks. -/
theorem u_markO_IntS (xs : List Int) (v : Value) (k0 : Int) (w : World) (lo hi : Nat) (h : Own_IntS w lo hi v xs) (_hh : hi ≤ w.heap.size) (b : Bd_IntS xs) (hk0 : 0 ≤ k0) (hk1 : k0 ≤ 1000000000) :
    Calls Try.prog 29 #[v, .int .i64 k0] w fun e w' => e = .returned (.int .i64 (k0 + len_IntS xs)) ∧ Own_IntS w' lo hi v (seqI k0 xs.length) ∧ Touch lo hi w w' :=
  (l_markIntS xs v k0 w lo h.1 (by unfold Bd_IntS at b; omega) hk0 (by omega)).mono fun _ _ ⟨h1, h2, h3⟩ => ⟨h1, ⟨h2, h.2⟩, touch_of_grown h3 fun b hb => ⟨(own_blocks h.1 b hb).1, h.2 b hb⟩⟩
set_option maxRecDepth 100000 in
set_option maxHeartbeats 1600000 in
theorem s_SidesOf (f : Cnf) (v : Value) (k : Int) (w : World) (h : Rd_Cnf w v f) (b : Bd_Cnf f) (_ : I64_Cnf f) (_ : I64 k) :
    Calls Try.prog 25 #[v, .int .i64 k] w (fun e w' => ∃ u0 u1 u2, e = .returned (.tuple #[u0, u1, u2, .bool (askB f k)]) ∧ Own_IntS w' w.heap.size w'.heap.size u0 (sideL f k) ∧ Own_IntS w' w.heap.size w'.heap.size u1 (sideR f k) ∧ Own_IntS w' w.heap.size w'.heap.size u2 (sideS f k) ∧ Ext w w') := by
  obtain ⟨A, c, rfl⟩ := h.form
  have X0 : Hid (Ext w (w.alloc (.cells #[.int .i64 f.n, .slice A f.cs.length c] 28))) := hd (Ext.new _ _)
  have HV := hd (h.ext X0.out)
  have HB := hd b
  have HB0 := hd (blk_new (w := w) (.cells #[.int .i64 f.n, .slice A f.cs.length c] 28) rfl)
  clear h b
  obtain ⟨q, hq⟩ : ∃ q, askB f k = q := ⟨_, rfl⟩
  have HQ := hd hq
  cases q
  · have HE : Hid (sideL f k = [] ∧ sideR f k = [] ∧ sideS f k = []) := hd (by unfold sideL sideR sideS; rw [hq]; exact ⟨rfl, rfl, rfl⟩)
    clear hq
    go_enter Try.func25, Try.ntmps25
    go_wp2_with fail
    refine (rtx (s_l29Asked f _ k _ HV.out HB.out) HQ).mono ?_
    rintro e w1 ⟨rfl, hx1⟩
    have X1 := hd (X0.out.trans hx1)
    have hs := X1.out.size
    have E1 : Hid (OwnI (w1.alloc (.cells #[] 3)) w.heap.size 3 (.slice (some ⟨w1.heap.size, 0, none⟩) 0 0) []) := hd (ownI_emp' rfl hs)
    have E2 : Hid (OwnI ((w1.alloc (.cells #[] 3)).alloc (.cells #[] 3)) w.heap.size 3 (.slice (some ⟨w1.heap.size + 1, 0, none⟩) 0 0) []) := hd (ownI_emp' (by simp) (by omega))
    have E3 : Hid (OwnI (((w1.alloc (.cells #[] 3)).alloc (.cells #[] 3)).alloc (.cells #[] 3)) w.heap.size 3 (.slice (some ⟨w1.heap.size + 1 + 1, 0, none⟩) 0 0) []) := hd (ownI_emp' (by simp) (by omega))
    clear hx1
    go_wp2
    refine bodyPost_ret (v := .tuple #[.slice (some ⟨w1.heap.size, 0, none⟩) 0 0, .slice (some ⟨w1.heap.size + 1, 0, none⟩) 0 0, .slice (some ⟨w1.heap.size + 1 + 1, 0, none⟩) 0 0, .bool false]) (by simp [results, Try.results25, go_sem]) rfl ⟨_, _, _, by rw [HQ.out], ?_, ?_, ?_, ((X1.out.alloc _).alloc _).alloc _⟩
    · rw [HE.out.1]; exact .mk (E1.out.ext ((Ext.new _ _).alloc _))
    · rw [HE.out.2.1]; exact .mk (E2.out.ext (Ext.new _ _))
    · rw [HE.out.2.2]; exact .mk E3.out
  · obtain ⟨hg, j, rfl, hj⟩ := ask_inv hq
    have HE : Hid (sideL f j = leftV f j f.n.toNat ∧ sideR f j = rightV f j f.n.toNat ∧ sideS f j = bothV f j f.n.toNat) := hd (by unfold sideL sideR sideS; rw [hq, if_pos rfl, if_pos rfl, if_pos rfl, Int.toNat_natCast]; exact ⟨rfl, rfl, rfl⟩)
    have HG := hd hg
    have HJ := hd hj
    clear hg hj hq
    go_enter Try.func25, Try.ntmps25
    go_wp2_with fail
    refine (rtx (s_l29Asked f _ _ _ HV.out HB.out) HQ).mono ?_
    rintro e w1 ⟨rfl, hx1⟩
    have X1 := hd (X0.out.trans hx1)
    have HV1 := hd (HV.out.ext hx1)
    obtain ⟨c0, c1⟩ := blk2 (hx1.heap HB0.out)
    clear hx1
    go_wp2_with fail
    refine (s_l29Sides f _ j _ HV1.out HB.out HG.out HJ.out).mono ?_
    rw [← HE.out.1, ← HE.out.2.1, ← HE.out.2.2]
    rintro e w2 ⟨u0, u1, u2, rfl, hu0, hu1, hu2, hx2⟩
    have X2 := hd (X1.out.trans hx2)
    have HU0 := hd hu0
    have HU1 := hd hu1
    have HU2 := hd hu2
    clear hx2 hu0 hu1 hu2
    go_wp2
    exact bodyPost_ret (v := .tuple #[u0, u1, u2, .bool true]) (by simp [results, Try.results25, go_sem]) rfl ⟨_, _, _, by rw [HQ.out], .mk (own_rebase HU0.out X1.out.size), .mk (own_rebase HU1.out X1.out.size), .mk (own_rebase HU2.out X1.out.size), X2.out⟩
theorem enters_SidesOf11 : Enters 79 := fun args w => by kernel_rfl
theorem i_SidesOf11 (f : Cnf) (k : Nat) (sh : List Int) (v : Value) (y : Int) (a : Addr) (w : World) (h : w.cell? a = some v) (hr : RdSp w v f k sh) (hl : sh.length ≤ 1073741824) :
    Calls Try.prog 79 #[.int .i64 y, .pointer (some a)] w (RetQ w (.bool (hasI sh y))) := by
  obtain ⟨b, vc, vs, rfl, hb, -, hS⟩ := hr
  obtain ⟨c0, c1, c2, c3⟩ := blk4' hb
  have HS := hd hS
  clear hb hS
  go_enter Try.func79, Try.ntmps79
  go_wp2_with fail
  refine (slices_Contains sh vs y _ HS.out hl).mono ?_
  rintro e w1 ⟨rfl, rfl⟩
  go_wp2
  go_ret
  exact RetQ.mk rfl
theorem enters_SidesOf1 : Enters 76 := fun args w => by kernel_rfl
set_option maxHeartbeats 1600000 in
theorem i_SidesOf1 (f : Cnf) (k : Nat) (sh : List Int) (L : List (List Int)) (v lv : Value) (a : Addr) (w : World) (h : w.cell? a = some v) (hr : RdSp w v f k sh) (hl : sh.length ≤ 1073741824) (hL : RdSS w lv L) (hLm : Hid (∀ c ∈ L, c ∈ f.cs)) (hg : goodB f = true) (hLl : L.flatten.length ≤ 1048576 ∧ L.length ≤ 1048576) :
    Calls Try.prog 76 #[lv, .pointer (some a)] w (RetI w 3 (((seqI 1 f.n.toNat).filter (inS L)).filter fun x => !hasI sh x)) := by
  have HR := hd hr
  have HL := hd hL
  have HV := hd (vars_eq hg hLm.out)
  have h12 := filt12 hg (inS L)
  have hcl : a.block < w.heap.size := World.block_lt_of_cell? w a h
  have HC := hd h
  clear hr hL h
  go_enter Try.func76, Try.ntmps76
  go_wp2_with fail
  refine (i_varsOf L lv _ HL.out hLl.1 hLl.2).mono ?_
  rw [HV.out]
  rintro e w1 ⟨u, rfl, hu, hx1⟩
  have HU := hd hu
  have X1 := hd hx1
  have hs := hx1.size
  clear hu hx1
  go_wp2_with fail
  refine (slices_DeleteFunc ((seqI 1 f.n.toNat).filter (inS L)) u 79 _ (hasI sh) w1 _ w.heap.size HU.out (by omega) (Nat.le_refl _) enters_SidesOf11 (hd fun x hx w' hb' => ?_)).mono ?_
  · have hE : ∀ {p : Addr} {u : Value}, w.cell? p = some u → w'.cell? p = some u := fun {p u} hc => by
      have hlt := World.block_lt_of_cell? w p hc
      rw [hb'.cell hlt]
      exact X1.out.cell hc
    refine i_SidesOf11 f k sh v x a w' (hE HC.out) ?_ hl
    have hX : Ext w w' := ⟨hb'.os.trans X1.out.os, hb'.tape.trans X1.out.tape, hb'.output.trans X1.out.output, Nat.le_trans X1.out.size hb'.size, fun g hg => (hb'.block g hg).trans (X1.out.block g hg)⟩
    exact HR.out.ext hX
  · rintro e w2 ⟨u2, rfl, hu2, hg2, -⟩
    have HU2 := hd hu2
    have X2 := hd (X1.out.grown hg2 X1.out.size (ownI_ge HU.out))
    clear hu2 hg2
    go_wp2
    go_ret
    exact ⟨_, rfl, HU2.out, X2.out⟩
set_option maxRecDepth 100000 in
set_option maxHeartbeats 3200000 in
theorem i_SidesOf (f : Cnf) (v : Value) (k : Int) (w : World) (h : Rd_Cnf w v f) (b : Bd_Cnf f) (_ : I64_Cnf f) (_ : I64 k) :
    Calls Try.prog 26 #[v, .int .i64 k] w (fun e w' => ∃ u0 u1 u2 x y, e = .returned (.tuple #[u0, u1, u2, .bool (askB f k)]) ∧ Own_IntS w' x y u0 (sideL f k) ∧ Own_IntS w' y w'.heap.size u1 (sideR f k) ∧ Own_IntS w' w.heap.size x u2 (sideS f k) ∧ w.heap.size ≤ x ∧ x ≤ y ∧ y ≤ w'.heap.size ∧ Ext w w') := by
  obtain ⟨A, c, rfl⟩ := h.form
  have X0 : Hid (Ext w (w.alloc (.cells #[.int .i64 f.n, .slice A f.cs.length c] 28))) := hd (Ext.new _ _)
  have HV := hd (h.ext X0.out)
  have HB := hd b
  clear h b
  obtain ⟨q, hq⟩ : ∃ q, askB f k = q := ⟨_, rfl⟩
  have HQ := hd hq
  cases q
  · have HE : Hid (sideL f k = [] ∧ sideR f k = [] ∧ sideS f k = []) := hd (by unfold sideL sideR sideS; rw [hq]; exact ⟨rfl, rfl, rfl⟩)
    go_enter Try.func26, Try.ntmps26
    go_wp2_with fail
    refine (i_splitOf_no f _ k _ HV.out HB.out HQ.out).mono ?_
    rintro e w1 ⟨rfl, hx1⟩
    have X1 := hd (X0.out.trans hx1)
    clear hx1 hq
    go_wp2
    refine bodyPost_ret (v := .tuple #[.slice none 0 0, .slice none 0 0, .slice none 0 0, .bool false]) (by simp [results, Try.results26, go_sem]) rfl ⟨_, _, _, w.heap.size, w.heap.size, by rw [HQ.out], ?_, ?_, ?_, Nat.le_refl _, Nat.le_refl _, (X1.out.alloc _).size, X1.out.alloc _⟩
    · rw [HE.out.1]; exact ⟨ownI_nil _ _ _, fun b hb => by cases hb⟩
    · rw [HE.out.2.1]; exact ⟨ownI_nil _ _ _, fun b hb => by cases hb⟩
    · rw [HE.out.2.2]; exact ⟨ownI_nil _ _ _, fun b hb => by cases hb⟩
  · obtain ⟨hg, j, rfl, hj⟩ := ask_inv hq
    have HE : Hid (sideL f j = leftV f j f.n.toNat ∧ sideR f j = rightV f j f.n.toNat ∧ sideS f j = bothV f j f.n.toNat) := hd (by unfold sideL sideR sideS; rw [hq, if_pos rfl, if_pos rfl, if_pos rfl, Int.toNat_natCast]; exact ⟨rfl, rfl, rfl⟩)
    have HG := hd hg
    have HJ := hd hj
    clear hg hj hq
    go_enter Try.func26, Try.ntmps26
    go_wp2_with fail
    refine (i_splitOf_yes f _ j _ HV.out HB.out HG.out HJ.out).mono ?_
    rintro e w1 ⟨p, rfl, hs, hx1⟩
    have X1 := hd (X0.out.trans hx1)
    have HS1 := hd hs.rd
    obtain ⟨bl, vc, vs, rfl, hbl, hblk, -, ho, -⟩ := hs
    have HO1 := hd ho
    have hl60 := (good_inv HG.out).2.2.1
    have HLF := hd (left_eq' f j)
    have HRF := hd (right_eq' f j)
    have HBL : Hid ((bothV f j f.n.toNat).length ≤ 1073741824) := hd (by have := filt12 HG.out (fun v => inS (f.cs.take j) v && inS (f.cs.drop j) v); unfold bothV; omega)
    have HTL : Hid ((f.cs.take j).flatten.length ≤ 1048576 ∧ (f.cs.take j).length ≤ 1048576) := hd ⟨good_take HG.out j, by simp; omega⟩
    have HDL : Hid ((f.cs.drop j).flatten.length ≤ 1048576 ∧ (f.cs.drop j).length ≤ 1048576) := hd ⟨good_drop HG.out j, by simp; omega⟩
    have HK3 := hd (blk_old (o' := .cells #[.pointer (some ⟨bl, 0, none⟩)] 68) hblk)
    have HK0 := hd (blk_new (w := w1) (.cells #[.pointer (some ⟨bl, 0, none⟩)] 68) rfl)
    have XO : Hid (Ext w1 (w1.alloc (.cells #[.pointer (some ⟨bl, 0, none⟩)] 68))) := hd (Ext.new _ _)
    obtain ⟨A2, c2, rfl, -⟩ := ho.form
    clear hx1 hblk ho
    have hent := enters_SidesOf1
    unfold Enters at hent
    generalize hbo : bothV f j f.n.toNat = both at *
    clear hbo
    go_wp2_with fail
    generalize hW : w1.alloc (.cells #[.pointer (some ⟨bl, 0, none⟩)] 68) = wo at *
    clear hW
    have HSO := hd (HS1.out.ext XO.out)
    have k0 := blk1 HK0.out
    obtain ⟨-, -, -, k3⟩ := blk4' HK3.out
    go_region_held3 (fun w' => (w'.cell? ⟨w1.heap.size, 0, none⟩ = some (.pointer (some ⟨bl, 0, none⟩)) ∧ w'.cell? ⟨bl, 3, none⟩ = some (.slice A2 both.length c2)) ∧ Ext wo w')
      ((refine ⟨⟨Ext.cell ?_ k0, Ext.cell ?_ k3⟩, ?_⟩ <;> (first | assumption | exact Ext.refl _ | exact (Ext.refl _).drew)))
      (first
        | (go_at_call 71; refine (i_left f j both _ _ (HSO.out.ext ((Ext.refl _).drew)) HJ.out (by omega)).mono ?_; rintro e wl ⟨ul, rfl, hul, nl, hwl⟩; (have EL : Ext wo wl := by rw [hwl]; exact ((Ext.refl _).drew).drewN nl); (have hUL : RdSS wl ul (f.cs.take j) := by rw [hwl]; exact hul); clear hwl hul)
        | (go_at_call 74; refine (i_right f j both _ wa (HSO.out.ext EA) HJ.out (by omega)).mono ?_; rintro e wr ⟨ur, rfl, hur, nr, hwr⟩; (have ER : Ext wa wr := by rw [hwr]; exact ext_drewN _ _); (have hUR : RdSS wr ur (f.cs.drop j) := by rw [hwr]; exact hur); (have EAR : Ext wo wr := EA.trans ER); clear hwr hur)
        | (go_at_call 76; ((with_reducible refine (i_SidesOf1 f j both (f.cs.take j) _ ul ⟨w1.heap.size, 0, none⟩ wl (EL.cell k0) (HSO.out.ext EL) HBL.out hUL (hd mem_t) HG.out HTL.out).mono ?_); rintro e wa ⟨ua, rfl, hua, hxa⟩; (have EA : Ext wo wa := EL.trans hxa)))
        | (go_at_call 76; ((with_reducible refine (i_SidesOf1 f j both (f.cs.drop j) _ ur ⟨w1.heap.size, 0, none⟩ wr (EAR.cell k0) (HSO.out.ext EAR) HBL.out hUR (hd mem_d) HG.out HDL.out).mono ?_); rintro e wb ⟨ub, rfl, hub, hxb⟩; (have EB : Ext wo wb := EAR.trans hxb))))
    rw [HLF.out, ← HE.out.1] at hua
    rw [HRF.out, ← HE.out.2.1] at hub
    have HUA : Hid (Own_IntS wb wl.heap.size wr.heap.size ua (sideL f j)) := hd ⟨hua.ext (ER.trans hxb), fun g hg => Nat.lt_of_lt_of_le (own_lt hua g hg) ER.size⟩
    have HUB : Hid (Own_IntS wb wr.heap.size wb.heap.size ub (sideR f j)) := hd (.mk hub)
    have HS0 := hd (OwnI.ext HO1.out (XO.out.trans EB))
    have HUS : Hid (Own_IntS wb w.heap.size wl.heap.size (.slice A2 both.length c2) (sideS f j)) := hd ⟨by rw [HE.out.2.2]; exact own_rebase HS0.out (by simp), fun g hg => by have := own_lt HO1.out g hg; have := XO.out.size; have := EL.size; omega⟩
    have XW := hd ((X1.out.trans XO.out).trans EB)
    have hs1 : w.heap.size ≤ wl.heap.size := by have := X1.out.size; have := XO.out.size; have := EL.size; omega
    have hs2 : wl.heap.size ≤ wr.heap.size := by have := hxa.size; have := ER.size; omega
    have hs3 : wr.heap.size ≤ wb.heap.size := hxb.size
    clear hua hub hxa hxb EA ER EAR hUL hUR EB EL HS0 hent
    go_wp2
    exact bodyPost_ret (v := .tuple #[ua, ub, .slice A2 both.length c2, .bool true]) (by simp [results, Try.results26, go_sem]) rfl ⟨_, _, _, _, _, by rw [HQ.out], HUA.out, HUB.out, HUS.out, hs1, hs2, hs3, XW.out⟩
end Go.Proofs.Ythiflbcodbigbaa
