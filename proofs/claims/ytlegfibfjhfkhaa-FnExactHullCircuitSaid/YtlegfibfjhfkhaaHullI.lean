/-
  HullCircuit, the program's side. Conditions: sizes up to 2^20.
-/
import Derived.Test.YtlegfibfjhfkhaaHullC
namespace Go.Proofs.Ytlegfibfjhfkhaa
open Go.RowKit
theorem own_boxN {w : World} {lo b s n : Nat} {e T : TypeId} {v : Value} {cs : List Value} {cells : Array Value} {fr : Nat × Nat} (h : Own w lo e s v n cs) (hb : w.heap[b]? = some (.cells cells T fr)) (hT : T ≠ e) : ∀ g, v.ownBlock = some g → g ≠ b := by
  intro g hg e2
  subst e2
  rcases h.2 with ⟨rfl, _⟩ | ⟨g', cap, cur, rfl, _, hg', _⟩
  · cases hg
  · injection hg with hg
    subst hg
    rw [hb] at hg'
    injection hg' with h1
    injection h1 with _ h2 _
    exact hT h2
theorem blk3W {w : World} {b : Nat} {x y z : Value} {e : TypeId} (h : w.heap[b]? = some (.cells #[x, y, z] e)) : (w.cell? ⟨b, 0, none⟩ = some x ∧ w.cell? ⟨b, 1, none⟩ = some y ∧ w.cell? ⟨b, 2, none⟩ = some z) ∧ w.frozen? ⟨b, 0, none⟩ = false ∧ w.frozen? ⟨b, 1, none⟩ = false ∧ w.frozen? ⟨b, 2, none⟩ = false := by
  simp [World.cell?, World.frozen?, h]
theorem blk3Ws {w : World} {b : Nat} {x y z u : Value} {e : TypeId} (h : w.heap[b]? = some (.cells #[x, y, z] e)) : (w.setCell ⟨b, 1, none⟩ u).heap[b]? = some (.cells #[x, u, z] e) := by
  simp [World.setCell, Array.getElem?_modify, h]
/-- A wirer's box: its gates lie in a slice of the call's own. -/
def BxW (w : World) (b lo : Nat) (p : Value) (gs : List Gat) : Prop := ∃ gv, w.heap[b]? = some (.cells #[p, gv, .slice none 0 0] 108) ∧ OwnG w lo gv gs
theorem BxW.ext {w w' : World} {b lo : Nat} {p : Value} {gs : List Gat} (h : BxW w b lo p gs) (he : Ext w w') : BxW w' b lo p gs := by
  obtain ⟨gv, h1, h2⟩ := h
  exact ⟨gv, he.heap h1, own_ext h2 he⟩
def KeepW (w w' : World) (b lo : Nat) : Prop := (∀ w0, Ext w0 w → w0.heap.size ≤ lo → w0.heap.size ≤ b → Ext w0 w') ∧ (∀ lo5 v xs, b < lo5 → OwnI w lo5 3 v xs → OwnI w' lo5 3 v xs) ∧ w.heap.size ≤ w'.heap.size
set_option maxHeartbeats 1600000 in
theorem i_wput (gs : List Gat) (b lo : Nat) (p : Value) (x y z : Int) (w : World) (h : BxW w b lo p gs) (hl : gs.length ≤ 1000000) (hlo : lo ≤ w.heap.size) :
    Calls Try.prog 86 #[.pointer (some ⟨b, 0, none⟩), .int .i64 x, .int .i64 y, .int .i64 z] w (fun e w' => e = .returned (.int .i64 gs.length) ∧ BxW w' b lo p (gs ++ [⟨x, y, z⟩]) ∧ KeepW w w' b lo) := by
  obtain ⟨gv, hb, ho⟩ := h
  have hne := own_boxN ho hb (by decide)
  have hbl : b < w.heap.size := (Array.getElem?_eq_some_iff.1 hb).1
  obtain ⟨⟨c0, c1, c2⟩, -, -, -⟩ := blk3W hb
  obtain ⟨gn, hgn⟩ : ∃ gn, gs.length = gn := ⟨_, rfl⟩
  obtain ⟨A, c, rfl⟩ := OwnG.form2 ho hgn
  have HB := hd hb
  have HO := hd ho
  have HNE := hd hne
  have HGN := hd hgn
  rw [hgn] at hl ⊢
  clear hb ho hne hgn
  go_enter Try.func86, Try.ntmps86
  go_wp2_with (at_builtin; refine appG w x y z HO.out rfl _ _ rfl (by rfl) (by rfl) (by simp) (by rw [HGN.out]; omega) hlo ?_; intro u w4 hu hg4 hb4; have hbx : w4.heap[b]? = some (.cells #[p, .slice A gn c, .slice none 0 0] 108) := (by rw [hg4.block _ hbl (fun e => HNE.out _ e.symm rfl)]; exact HB.out); obtain ⟨⟨d0, d1, d2⟩, f0, f1, f2⟩ := blk3W hbx; obtain ⟨A2, c3, rfl⟩ := OwnG.form2 hu (n := gn + 1) (by rw [List.length_append, HGN.out]; rfl); have HU := hd hu; have HG4 := hd hg4; have HBX := hd hbx; clear hu hg4 hb4 hbx c0 c1 c2)
  go_ret
  have hne4 := own_boxN HU.out HBX.out (by decide)
  have hs : w4.grownBy (w4.setCell ⟨b, 1, none⟩ (.slice A2 (gn + 1) c3)) (some b) := grown_set (grown_refl _ _) _ _
  refine ⟨by simp, ⟨_, blk3Ws HBX.out, World.ownsRow.kept HU.out hs (.inr fun e => hne4 _ e rfl)⟩, fun w0 h1 h2 h3 => ?_, fun lo5 v xs h1 h2 => ?_, ?_⟩
  · exact ext_appS (v := .slice (some ⟨b, 0, none⟩) 0 0) (ext_appS h1 HG4.out (fun g e => Nat.le_trans h2 (own_blocks HO.out g e).1)) hs (fun g e => by cases e; exact h3)
  · have h4 : OwnI w4 lo5 3 v xs := own_grown h2 HG4.out (fun g e1 e2 => own_ne h2 HO.out (by decide) e1 e2)
    exact own_grown h4 hs (fun g e1 e2 => by injection e2 with e2; have := (own_blocks h4 g e1).1; omega)
  · have := HG4.out.size
    have := hs.size
    omega
set_option maxRecDepth 100000 in
set_option maxHeartbeats 6400000 in
theorem i_HullCircuit (f : Cnf) (v : Value) (ki : Int) (w : World) (h : Rd_Cnf w v f) (b : Bd_Cnf f) (_ : I64_Cnf f) (_ : I64 ki) :
    Calls Try.prog 35 #[v, .int .i64 ki] w (RetG2 w (hullCO f ki) (hullCB f ki)) := by
  obtain ⟨A, c, rfl⟩ := h.form
  have X0 : Hid (Ext w (w.alloc (.cells #[.int .i64 f.n, .slice A f.cs.length c] 26))) := hd (Ext.new _ _)
  have HV := hd (h.ext X0.out)
  have HB := hd b
  clear h b
  obtain ⟨q, hq⟩ : ∃ q, sharedB f ki = q := ⟨_, rfl⟩
  have HQ := hd hq
  have HCB : Hid (hullCB f ki = (q && decide ((hullCV f ki).length ≤ 200))) := hd (by unfold hullCB; rw [hq])
  have HCO : Hid (hullCO f ki = if hullCB f ki then hullCV f ki else []) := hd rfl
  cases q
  · clear hq
    have HE : Hid (hullCB f ki = false) := hd (by rw [HCB.out]; rfl)
    have HE2 : Hid (hullCO f ki = []) := hd (by rw [HCO.out, HE.out]; rfl)
    go_enter Try.func35, Try.ntmps35
    go_wp2_with fail
    refine (i_sharedSplit_no f _ ki _ HV.out HB.out HQ.out).mono ?_
    rintro e w1 ⟨p, rfl, hx1⟩
    have X1 := hd (X0.out.trans hx1)
    clear hx1
    go_wp2
    go_ret2
    exact ⟨_, by rw [HE.out]; rfl, by rw [HE2.out]; exact ⟨own_nil _ _ _ _, fun b e => by cases e⟩, X1.out⟩
  · obtain ⟨hg, j, rfl, hj, h6, hsv, -⟩ := shared_inv hq
    have HCV : Hid (hullCV f (j : Int) = hullG (bothV f j f.n.toNat) (leastV f j)) := hd (by unfold hullCV; rw [Int.toNat_natCast])
    have HHG : Hid (∀ vs ls, hullG vs ls = (orsS vs.length vs.length (varG vs ++ [⟨2, 0, 0⟩, ⟨3, 0, 0⟩], (vs.length : Int) + 1) ls ls.length).1) := hd fun _ _ => rfl
    have HLE : Hid (∀ x ∈ leastV f j, 0 ≤ x ∧ x < 1048576) := hd fun x hx => by
      unfold leastV leastL at hx
      obtain ⟨y, hy, rfl⟩ := List.mem_map.1 hx
      have h1 := List.mem_range.1 (List.mem_filter.1 hy).1
      have := hullV_bd f j
      unfold Bd_BoolS at this
      omega
    have hll : (leastV f j).length ≤ 64 := by
      have h1 := leastL_len (hullV f j) (hullV f j).length
      have h2 : (hullV f j).length ≤ 64 := by
        unfold hullV
        rw [length_hullB, hsv, possV_len]
        exact pow6 h6
      unfold leastV
      omega
    have HEL : Hid (leastV f j = leastL (hullB (possV (bothV f j f.n.toNat) (f.cs.take j) (2 ^ f.n.toNat))) (hullB (possV (bothV f j f.n.toNat) (f.cs.take j) (2 ^ f.n.toNat))).length) := hd (by unfold leastV hullV; rw [hsv])
    have HG := hd hg
    have HJ := hd hj
    have H6 := hd h6
    have HSY := hd (fun w' hx => i_sharedSplit_yes f (.agg #[.int .i64 f.n, .slice A f.cs.length c]) j w' hx HB.out HG.out HJ.out H6.out)
    have HLT : Hid (∀ v w', RdSp w' v f j (bothV f j f.n.toNat) → Calls Try.prog 87 #[v] w' (RetI w' 3 (leastV f j))) := hd fun v w' hs => by
      rw [HEL.out]; exact i_leastTrue f j v w' hs HG.out HJ.out H6.out
    clear hq hsv hg hj HEL HG HJ
    generalize hullCV f (j : Int) = CV at *
    generalize leastV f (j : Int) = ls at *
    generalize bothV f j f.n.toNat = vs at *
    obtain ⟨nb, hnb⟩ : ∃ nb, vs.length = nb := ⟨_, rfl⟩
    have HNB := hd hnb
    rw [hnb] at h6
    obtain ⟨G0, hG0⟩ : ∃ G0, varG vs ++ [⟨2, 0, 0⟩, ⟨3, 0, 0⟩] = G0 := ⟨_, rfl⟩
    have HVL : Hid (G0.length = nb + 2) := hd (by rw [← hG0, ← hnb]; simp)
    obtain ⟨SS, hSS⟩ : ∃ SS : Nat → List Gat × Int, orsS nb nb (G0, (nb : Int) + 1) ls = SS := ⟨_, rfl⟩
    have HS0 : Hid (SS 0 = (G0, (nb : Int) + 1)) := hd (by rw [← hSS]; rfl)
    have HSL : Hid (∀ k, k ≤ 64 → (SS k).1.length ≤ 2000) := hd fun k hk => by
      have h1 := orsS_len nb nb (G0, (nb : Int) + 1) ls k
      have h2 : k * (nb + 1) ≤ 64 * 7 := Nat.mul_le_mul hk (by omega)
      rw [hSS] at h1
      have h3 := HVL.out
      dsimp only at h1
      omega
    have HSS : Hid (∀ k, SS (k + 1) = orS nb nb (SS k) (ls.getD k 0).toNat) := hd fun _ => by rw [← hSS]; rfl
    have HFIN : Hid (CV = (SS ls.length).1) := hd (by rw [HCV.out, HHG.out, hnb, hG0, hSS])
    have HG0 : Hid (varG vs ++ [⟨2, 0, 0⟩] ++ [⟨3, 0, 0⟩] = G0) := hd (by rw [← hG0, List.append_assoc]; rfl)
    clear hG0 hSS HCV HHG hnb
    go_enter Try.func35, Try.ntmps35
    go_wp2_with fail
    refine (HSY.out _ HV.out).mono ?_
    rintro e w3 ⟨p, rfl, hs, hx1⟩
    have X3 := hd (X0.out.trans hx1)
    have HS := hd hs
    obtain ⟨bs, vc, vv, rfl, hBs, -, hvv⟩ := hs
    have HBS := hd hBs
    obtain ⟨A1, c1, rfl, -, -, hr⟩ := hvv.form
    rw [HNB.out] at hBs HBS
    have HR : Hid (RdI w3 (.slice A1 nb c1) vs) := by have := hr; rw [HNB.out] at this; exact this
    obtain ⟨k0, k1, k2, k3⟩ := blk4' hBs
    have hbsl : bs < w3.heap.size := (Array.getElem?_eq_some_iff.1 hBs).1
    have BW0 : Hid (BxW (w3.alloc (.cells #[.pointer (some ⟨bs, 0, none⟩), .slice none 0 0, .slice none 0 0] 108)) w3.heap.size w3.heap.size (.pointer (some ⟨bs, 0, none⟩)) (varG (vs.take 0))) := hd ⟨_, heap_alloc_new w3 _, own_nil _ _ _ _⟩
    have e3 : (w3.alloc (.cells #[.pointer (some ⟨bs, 0, none⟩), .slice none 0 0, .slice none 0 0] 108)).cell? ⟨bs, 3, none⟩ = some (.slice A1 nb c1) := (Ext.new w3 _).cell k3
    clear hx1 hvv hr hBs
    go_wp2
    clear k0 k1 k2 k3 e3
    go_loopw [33, 10] (fun i _ wr => ∃ k : Nat, k ≤ nb ∧ i = .int .i64 (k : Int) ∧ BxW wr w3.heap.size w3.heap.size (.pointer (some ⟨bs, 0, none⟩)) (varG (vs.take k)) ∧ Ext w3 wr) (fun i _ _ => nb - (intOf i).toNat)
    case atStart => exact ⟨0, by omega, rfl, BW0.out, Ext.new _ _⟩
    case round =>
      clear BW0
      obtain ⟨k, hk, rfl, ho, hx⟩ := hrel
      have HO := hd ho
      have HX := hd hx
      have hxs := hx.size
      clear ho hx
      by_cases hlt : k < nb
      · have hlt' : k < vs.length := by rw [HNB.out]; exact hlt
        obtain ⟨a, rfl, hc⟩ := RdI.at_ (hd (RdI.ext HR.out HX.out)) hlt'
        have HT : Hid (varG (vs.take (k + 1)) = varG (vs.take k) ++ [⟨1, vs[k], 0⟩]) := hd (by rw [List.take_succ_eq_append_getElem hlt']; unfold varG; rw [List.map_append]; rfl)
        have hvl : (varG (vs.take k)).length ≤ 1000000 := by simp; omega
        generalize vs[k] = y at *
        go_wp2_with fail
        refine (i_wput _ _ _ _ 1 y 0 _ HO.out hvl hxs).mono ?_
        rintro e w4 ⟨rfl, ho4, hk4, -⟩
        have HO4 := hd ho4
        have HX4 := hd (hk4 _ HX.out (Nat.le_refl _) (Nat.le_refl _))
        clear ho4 hk4 hc
        go_wp2
        go_roundw
        case rel => exact ⟨k + 1, by omega, by go_num, by rw [HT.out]; exact HO4.out, HX4.out⟩
        case measure => simp [intOf]; omega
      · have hkl : vs.take k = vs := List.take_of_length_le (by rw [HNB.out]; omega)
        rw [hkl] at HO
        obtain rfl : k = nb := by omega
        have HVN : Hid ((varG vs).length = k) := hd (by rw [varG_len, HNB.out])
        clear hkl
        go_wp2_with fail
        refine (i_wput (varG vs) _ _ _ 2 0 0 _ HO.out (by rw [HVN.out]; omega) hxs).mono ?_
        rw [HVN.out]
        rintro e w4 ⟨rfl, ho4, hk4, -, hs4⟩
        have HO4 := hd ho4
        have HX4 := hd (hk4 _ HX.out (Nat.le_refl _) (Nat.le_refl _))
        clear ho4 hk4
        go_wp2_with fail
        refine (i_wput (varG vs ++ [⟨2, 0, 0⟩]) _ _ _ 3 0 0 _ HO4.out (by rw [List.length_append, HVN.out]; simp; omega) (by omega)).mono ?_
        rw [List.length_append, HVN.out, HG0.out]
        rintro e w5 ⟨rfl, ho5, hk5, -, hs5⟩
        have HO5 := hd ho5
        have HX5 := hd (hk5 _ HX4.out (Nat.le_refl _) (Nat.le_refl _))
        clear ho5 hk5 HO4 HX4 HO HX
        go_wp2_with fail
        refine (HLT.out _ _ (HS.out.ext HX5.out)).mono ?_
        rintro e w6 ⟨u6, rfl, hu6, hx6⟩
        have HO6 := hd (HO5.out.ext hx6)
        have HX6 := hd (HX5.out.trans hx6)
        have hw5 : w3.heap.size < w5.heap.size := by
          obtain ⟨gv, hb, _⟩ := HO5.out
          exact (Array.getElem?_eq_some_iff.1 hb).1
        have HL6 := hd hu6
        obtain ⟨A6, c6, rfl, -, -, -⟩ := hu6.rd.form
        clear hx6 hu6 HO5 HX5 HLT HSY
        go_wp2
        go_loopw [48, 12, 14, 15, 16] (fun i su _ _ _ wr => ∃ m : Nat, m ≤ ls.length ∧ i = .int .i64 (m : Int) ∧ BxW wr w3.heap.size w3.heap.size (.pointer (some ⟨bs, 0, none⟩)) (SS m).1 ∧ su = .int .i64 (SS m).2 ∧ OwnI wr w5.heap.size 3 (.slice A6 ls.length c6) ls ∧ Ext w3 wr) (fun i _ _ _ _ _ => ls.length - (intOf i).toNat)
        case atStart => exact ⟨0, by omega, rfl, by rw [HS0.out]; exact HO6.out, by rw [HS0.out], HL6.out, HX6.out⟩
        case round =>
          clear HO6 HL6 HX6
          obtain ⟨m, hm, rfl, ho, rfl, hl, hx⟩ := hrel
          have hsl := HSL.out m (by omega)
          by_cases hlt2 : m < ls.length
          · have hle := HLE.out _ (List.getElem_mem hlt2)
            obtain ⟨n, hn⟩ := Int.eq_ofNat_of_zero_le hle.1
            have HST : Hid (SS (m + 1) = orS k k (SS m) n) := hd (by
              rw [HSS.out, List.getD_eq_getElem?_getD, List.getElem?_eq_getElem hlt2]
              show orS _ _ _ (ls[m]).toNat = _
              rw [hn]; rfl)
            have hnb : n < 1048576 := by omega
            obtain ⟨a, c9, e9, -, -, hlr⟩ := hl.rd.form
            obtain ⟨rfl, rfl⟩ : A6 = a ∧ c6 = c9 := by injection e9 with e1 e2 e3; exact ⟨e1, e3⟩
            obtain ⟨a, rfl, hc0⟩ := RdI.at_ hlr hlt2
            rw [hn] at hc0
            obtain ⟨⟨g1, z1⟩, hS⟩ : ∃ s, SS m = s := ⟨_, rfl⟩
            rw [hS] at ho HST hsl ⊢
            dsimp only at ho hsl ⊢
            have HO := hd ho
            have HL := hd hl
            have HX := hd hx
            obtain ⟨l0, l1, l2, l3⟩ := blk4' (hx.heap HBS.out)
            have hal := fun m => andS_len n k g1 m
            have HA0 : Hid (andS n k g1 0 = (g1, (k : Int))) := hd rfl
            clear ho hl hx hle hn hS hlr e9
            go_wp2
            clear hc0 l0 l1 l2 l3
            go_loopw [58, 15, 16] (fun i at_ _ wr2 => ∃ t : Nat, t ≤ k ∧ i = .int .i64 (t : Int) ∧ BxW wr2 w3.heap.size w3.heap.size (.pointer (some ⟨bs, 0, none⟩)) (andS n k g1 t).1 ∧ at_ = .int .i64 (andS n k g1 t).2 ∧ OwnI wr2 w5.heap.size 3 (.slice (some a) ls.length c6) ls ∧ Ext w3 wr2) (fun i _ _ _ => k - (intOf i).toNat)
            case atStart => exact ⟨0, by omega, rfl, by rw [HA0.out]; exact HO.out, by rw [HA0.out], HL.out, HX.out⟩
            case round =>
              clear HO HL HX HA0
              obtain ⟨t, ht, rfl, ho, rfl, hl, hx⟩ := hrel
              have hA1 : (andS n k g1 (t + 1)) = if bitN n t = 1 then ((andS n k g1 t).1 ++ [⟨5, (andS n k g1 t).2, (t : Int)⟩], ((andS n k g1 t).1.length : Int)) else andS n k g1 t := rfl
              have hAL := hal t
              obtain ⟨⟨ga, za⟩, hS⟩ : ∃ s, andS n k g1 t = s := ⟨_, rfl⟩
              rw [hS] at ho hA1 hAL ⊢
              dsimp only at ho hA1 hAL ⊢
              have HO := hd ho
              have HL := hd hl
              have HX := hd hx
              have hxs2 := hx.size
              clear ho hl hx
              by_cases hlt3 : t < k
              · have hsh := shr_and (b := n) (k := t) (by omega)
                have hbl := bitN_lt n t
                by_cases hb : bitN n t = 1
                · rw [hb] at hsh
                  rw [if_pos hb] at hA1
                  have HA1 := hd hA1
                  clear hA1 hS hb
                  go_wp2_with fail
                  refine (i_wput ga _ _ _ 5 za t _ HO.out (by omega) hxs2).mono ?_
                  rintro e w7 ⟨rfl, ho7, hk7, hkk, -⟩
                  have HO7 := hd ho7
                  have HL7 := hd (hkk _ _ _ hw5 HL.out)
                  have HX7 := hd (hk7 _ HX.out (Nat.le_refl _) (Nat.le_refl _))
                  clear ho7 hk7 hkk
                  go_wp2
                  go_roundw
                  case rel => exact ⟨t + 1, by omega, by go_num, by rw [HA1.out]; exact HO7.out, by rw [HA1.out], HL7.out, HX7.out⟩
                  case measure => simp [intOf]; omega
                · have hb0 : bitN n t = 0 := by omega
                  rw [hb0] at hsh
                  rw [if_neg hb] at hA1
                  have HA1 := hd hA1
                  clear hA1 hS hb hb0
                  go_wp2
                  go_roundw
                  case rel => exact ⟨t + 1, by omega, by go_num, by rw [HA1.out]; exact HO.out, by rw [HA1.out], HL.out, HX.out⟩
                  case measure => simp [intOf]; omega
              · obtain rfl : t = k := by omega
                have HST2 : Hid (SS (m + 1) = (ga ++ [⟨6, z1, za⟩], (ga.length : Int))) := hd (by rw [HST.out, orS]; dsimp only; rw [hS])
                clear hA1 hS HST
                go_wp2_with fail
                refine (i_wput ga _ _ _ 6 z1 za _ HO.out (by omega) hxs2).mono ?_
                rintro e w7 ⟨rfl, ho7, hk7, hkk, -⟩
                have HO7 := hd ho7
                have HL7 := hd (hkk _ _ _ hw5 HL.out)
                have HX7 := hd (hk7 _ HX.out (Nat.le_refl _) (Nat.le_refl _))
                clear ho7 hk7 hkk
                go_wp2
                go_roundw
                case rel => exact ⟨m + 1, by omega, by go_num, by rw [HST2.out]; exact HO7.out, by rw [HST2.out], HL7.out, HX7.out⟩
                case measure => simp [intOf]; omega
          · obtain rfl : m = ls.length := by omega
            rw [← HFIN.out] at ho hsl
            obtain ⟨gv, hb, hog⟩ := ho
            have HO := hd hog
            have HX := hd hx
            obtain ⟨⟨d0, d1, d2⟩, -, -, -⟩ := blk3W hb
            obtain ⟨cn, hcn⟩ : ∃ cn, CV.length = cn := ⟨_, rfl⟩
            obtain ⟨A7, c7, rfl⟩ := OwnG.form2 hog hcn
            rw [hcn] at hsl HCB
            clear hx hl hb hog hcn
            have hsz2 : w.heap.size ≤ w3.heap.size := X3.out.size
            by_cases h200 : cn ≤ 200
            · have HE : Hid (hullCB f (j : Int) = true) := hd (by rw [HCB.out, decide_eq_true h200]; rfl)
              have HE2 : Hid (hullCO f (j : Int) = CV) := hd (by rw [HCO.out, HE.out]; rfl)
              have h201 : ¬ (200 : Int) < (cn : Int) := by omega
              go_wp2
              go_ret2
              have h9 := own_rebase (base' := w.heap.size) HO.out hsz2
              exact ⟨_, by rw [HE.out]; rfl, by rw [HE2.out]; exact ⟨h9, own_lt h9⟩, X3.out.trans HX.out⟩
            · have HE : Hid (hullCB f (j : Int) = false) := hd (by rw [HCB.out, decide_eq_false h200]; rfl)
              have HE2 : Hid (hullCO f (j : Int) = []) := hd (by rw [HCO.out, HE.out]; rfl)
              have h201 : (200 : Int) < (cn : Int) := by omega
              go_wp2
              go_ret2
              exact ⟨_, by rw [HE.out]; rfl, by rw [HE2.out]; exact ⟨own_nil _ _ _ _, fun b e => by cases e⟩, X3.out.trans HX.out⟩
end Go.Proofs.Ytlegfibfjhfkhaa
