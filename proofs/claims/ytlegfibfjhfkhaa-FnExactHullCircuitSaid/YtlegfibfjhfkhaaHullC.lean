/-
  HullCircuit: the words, the spec's side and the impl's. Conditions: sizes up to 2^20.
-/
import Derived.Test.YtlegfibfjhfkhaaLeast
import Derived.Test.YtlegfibfjhfkhaaGateM
import Derived.Test.YtlegfibfjhfkhaaAppL
import Derived.Test.YtlegfibfjhfkhaaAppG
namespace Go.Proofs.Ytlegfibfjhfkhaa
open Go.RowKit
def andS (n : Nat) (yes : Int) (gs : List Gat) : Nat → List Gat × Int
  | 0 => (gs, yes)
  | i + 1 => if bitN n i = 1 then ((andS n yes gs i).1 ++ [⟨5, (andS n yes gs i).2, (i : Int)⟩], ((andS n yes gs i).1.length : Int)) else andS n yes gs i
def orS (nb : Nat) (yes : Int) (s : List Gat × Int) (n : Nat) : List Gat × Int :=
  ((andS n yes s.1 nb).1 ++ [⟨6, s.2, (andS n yes s.1 nb).2⟩], ((andS n yes s.1 nb).1.length : Int))
def orsS (nb : Nat) (yes : Int) (s : List Gat × Int) (ls : List Int) : Nat → List Gat × Int
  | 0 => s
  | k + 1 => orS nb yes (orsS nb yes s ls k) (ls.getD k 0).toNat
def varG (vs : List Int) : List Gat := vs.map fun v => ⟨1, v, 0⟩
def hullG (vs ls : List Int) : List Gat := (orsS vs.length vs.length (varG vs ++ [⟨2, 0, 0⟩, ⟨3, 0, 0⟩], (vs.length : Int) + 1) ls ls.length).1
@[simp] theorem varG_len (vs : List Int) : (varG vs).length = vs.length := by simp [varG]
theorem andS_len (n : Nat) (yes : Int) (gs : List Gat) : ∀ i, (andS n yes gs i).1.length ≤ gs.length + i
  | 0 => by simp [andS]
  | i + 1 => by
    have := andS_len n yes gs i
    unfold andS
    split
    · simp; omega
    · omega
theorem orsS_len (nb : Nat) (yes : Int) (s : List Gat × Int) (ls : List Int) : ∀ k, (orsS nb yes s ls k).1.length ≤ s.1.length + k * (nb + 1)
  | 0 => by simp [orsS]
  | k + 1 => by
    have h1 := orsS_len nb yes s ls k
    have h2 := andS_len (ls.getD k 0).toNat yes (orsS nb yes s ls k).1 nb
    show ((andS _ _ _ _).1 ++ [_]).length ≤ _
    rw [List.length_append, Nat.succ_mul]
    simp only [List.length_singleton]
    omega
def hullCV (f : Cnf) (k : Int) : List Gat := hullG (bothV f k.toNat f.n.toNat) (leastV f k)
def hullCB (f : Cnf) (k : Int) : Bool := sharedB f k && decide ((hullCV f k).length ≤ 200)
def hullCO (f : Cnf) (k : Int) : List Gat := if hullCB f k then hullCV f k else []
theorem hullCO_bd (f : Cnf) (k : Int) : Bd_GateS (hullCO f k) := by
  unfold hullCO Bd_GateS
  split
  · rename_i h
    unfold hullCB at h
    rw [Bool.and_eq_true, decide_eq_true_eq] at h
    omega
  · simp
set_option maxHeartbeats 800000 in
theorem s_l30Put (gs : List Gat) (v : Value) (x y z : Int) (w : World) (lo : Nat) (h : OwnG w lo v gs) (hl : gs.length ≤ 1048576) (hlo : lo ≤ w.heap.size) :
    Calls Try.prog 83 #[v, .int .i64 x, .int .i64 y, .int .i64 z] w (fun e w' => ∃ v', e = .returned v' ∧ OwnG w' lo v' (gs ++ [⟨x, y, z⟩]) ∧ w.grownBy w' v.ownBlock) := by
  obtain ⟨A, c, rfl⟩ := OwnG.form h
  have HO := hd h
  clear h
  go_enter Try.func83, Try.ntmps83
  go_wp2_with (at_builtin; refine appG w x y z HO.out rfl _ _ rfl (by rfl) (by rfl) rfl (by omega) hlo ?_; intro v' w1 ho1 hg1 _)
  go_ret
  exact ⟨_, rfl, ho1, hg1⟩
theorem s_l30Give_yes (gs : List Gat) (A : Option Addr) (c : Nat) (w : World) (hl : gs.length ≤ 200) : Calls Try.prog 85 #[.slice A gs.length c] w (Ret w (.tuple #[.slice A gs.length c, .bool true])) := by
  go_enter Try.func85, Try.ntmps85
  have hn : ¬ 200 < (gs.length : Int) := by omega
  go_wp2
  go_ret2
  exact Ret.mk rfl
theorem s_l30Give_no (gs : List Gat) (A : Option Addr) (c : Nat) (w : World) (hl : 200 < gs.length) (hb : gs.length ≤ 1048576) : Calls Try.prog 85 #[.slice A gs.length c] w (fun e w' => ∃ u, e = .returned (.tuple #[u, .bool false]) ∧ OwnG w' w.heap.size u [] ∧ Ext w w') := by
  go_enter Try.func85, Try.ntmps85
  have hn : 200 < (gs.length : Int) := by omega
  go_wp2
  go_ret2
  exact ⟨_, rfl, own_lit w w.heap.size 89 3 #[] 0 (Nat.le_refl _) (Nat.zero_le _) rfl, Ext.new _ _⟩
set_option maxRecDepth 100000 in
set_option maxHeartbeats 3200000 in
theorem s_HullCircuit (f : Cnf) (v : Value) (ki : Int) (w : World) (h : Rd_Cnf w v f) (b : Bd_Cnf f) (hi : I64_Cnf f) (hk : I64 ki) :
    Calls Try.prog 34 #[v, .int .i64 ki] w (RetG2 w (hullCO f ki) (hullCB f ki)) := by
  obtain ⟨A, c, rfl⟩ := h.form
  have X0 : Hid (Ext w (w.alloc (.cells #[.int .i64 f.n, .slice A f.cs.length c] 26))) := hd (Ext.new _ _)
  have HB0 := hd (blk_new (w := w) (.cells #[.int .i64 f.n, .slice A f.cs.length c] 26) rfl)
  have HV := hd (h.ext X0.out)
  have HB := hd b
  have HI := hd hi
  have HK := hd hk
  clear h b hi hk
  obtain ⟨q, hq⟩ : ∃ q, sharedB f ki = q := ⟨_, rfl⟩
  have HQ := hd hq
  have HCB : Hid (hullCB f ki = (q && decide ((hullCV f ki).length ≤ 200))) := hd (by unfold hullCB; rw [hq])
  have HCO : Hid (hullCO f ki = if hullCB f ki then hullCV f ki else []) := hd rfl
  cases q
  · clear hq
    have HE : Hid (hullCB f ki = false) := hd (by rw [HCB.out]; rfl)
    have HE2 : Hid (hullCO f ki = []) := hd (by rw [HCO.out, HE.out]; rfl)
    go_enter Try.func34, Try.ntmps34
    go_wp2_with fail
    refine (s_HullValues f _ ki _ HV.out HB.out HI.out HK.out).mono ?_
    rw [HQ.out]
    rintro e w1 ⟨u, rfl, hu, hx1⟩
    have X1 := hd (X0.out.trans hx1)
    clear hx1 hu
    go_wp2
    go_ret2
    exact ⟨_, by rw [HE.out]; rfl, by rw [HE2.out]; exact ⟨own_lit w1 w.heap.size 89 3 #[] 0 X1.out.size (Nat.zero_le _) rfl, fun g hg => (by obtain rfl : w1.heap.size = g := Option.some.inj hg; simp)⟩, X1.out.alloc _⟩
  · obtain ⟨hg, j, rfl, hj, h6, hsv, -⟩ := shared_inv hq
    have HCV : Hid (hullCV f (j : Int) = hullG (bothV f j f.n.toNat) (leastV f j)) := hd (by unfold hullCV; rw [Int.toNat_natCast])
    have HHG : Hid (∀ vs ls, hullG vs ls = (orsS vs.length vs.length (varG vs ++ [⟨2, 0, 0⟩, ⟨3, 0, 0⟩], (vs.length : Int) + 1) ls ls.length).1) := hd fun _ _ => rfl
    have HLV : Hid (leastL (hullV f j) (hullV f j).length = leastV f j) := hd rfl
    have HLE : Hid (∀ x ∈ leastV f j, 0 ≤ x ∧ x < 1048576) := hd fun x hx => by
      unfold leastV leastL at hx
      obtain ⟨y, hy, rfl⟩ := List.mem_map.1 hx
      have h1 := List.mem_range.1 (List.mem_filter.1 hy).1
      have := hullV_bd f j
      unfold Bd_BoolS at this
      omega
    have hll : (leastV f j).length ≤ 64 := by
      have h1 := leastL_len (hullV f j) (hullV f j).length
      have h2 : (hullV f j).length ≤ 64 := by
        unfold hullV
        rw [length_hullB, hsv, possV_len]
        exact pow6 h6
      unfold leastV
      omega
    have HG := hd hg
    have HJ := hd hj
    clear hq hsv hg hj
    have HSD := hd (fun w' hx => s_l29Sides f (.agg #[.int .i64 f.n, .slice A f.cs.length c]) j w' hx HB.out HG.out HJ.out)
    generalize hullCV f (j : Int) = CV at *
    generalize leastV f (j : Int) = ls at *
    generalize bothV f j f.n.toNat = vs at *
    have HNB := hd h6
    go_enter Try.func34, Try.ntmps34
    go_wp2_with fail
    refine (s_HullValues f _ j _ HV.out HB.out HI.out HK.out).mono ?_
    rw [HQ.out]
    rintro e w1 ⟨u, rfl, hu, hx1⟩
    have X1 := hd (X0.out.trans hx1)
    have HU := hd hu.rd
    have HV1 := hd (HV.out.ext hx1)
    obtain ⟨c0, c1⟩ := blk2 (hx1.heap HB0.out)
    clear hx1 hu
    go_wp2_with fail
    refine (HSD.out _ HV1.out).mono ?_
    rintro e w2 ⟨u0, u1, u2, rfl, -, -, hu2, hx2⟩
    have X2 := hd (X1.out.trans hx2)
    have HU2 := hd (HU.out.ext hx2)
    have HS := hd hu2.rd
    obtain ⟨A2, c2, rfl, -⟩ := hu2.form
    have HSat := hd (hu2.rd.form)
    clear hx2 hu2 c0 c1
    have O0 : Hid (OwnG (w2.alloc (.cells #[] 89)) w2.heap.size (.slice (some ⟨w2.heap.size, 0, none⟩) 0 0) (varG (vs.take 0))) := hd (own_lit w2 w2.heap.size 89 3 #[] 0 (Nat.le_refl _) (Nat.zero_le _) rfl)
    go_wp2
    go_loopw [12, 11] (fun i g wr => ∃ k : Nat, k ≤ vs.length ∧ i = .int .i64 k ∧ OwnG wr w2.heap.size g (varG (vs.take k)) ∧ Ext w2 wr) (fun i _ _ => vs.length - (intOf i).toNat)
    case atStart => exact ⟨0, by omega, rfl, O0.out, Ext.new _ _⟩
    case round =>
      clear O0
      obtain ⟨k, hk, rfl, ho, hx⟩ := hrel
      have HO := hd ho
      have HX := hd hx
      clear ho hx
      obtain ⟨A3, c3, rfl⟩ := OwnG.form2 HO.out (n := k) (by simp; omega)
      by_cases hlt : k < vs.length
      · obtain ⟨A4, c4, hA4, -, -, ha4⟩ := HSat.out
        obtain ⟨rfl, -, rfl⟩ : A2 = A4 ∧ vs.length = vs.length ∧ c2 = c4 := by injection hA4 with a1 a2 a3; exact ⟨a1, a2, a3⟩
        obtain ⟨a, rfl, hc⟩ := RdI.at_ (hd (RdI.ext ha4.out HX.out)) hlt
        have HT : Hid (varG (vs.take (k + 1)) = varG (vs.take k) ++ [⟨1, vs[k], 0⟩]) := hd (by rw [List.take_succ_eq_append_getElem hlt]; unfold varG; rw [List.map_append]; rfl)
        have hvl : (varG (vs.take k)).length ≤ 1048576 := by simp; omega
        generalize vs[k] = y at *
        go_wp2_with fail
        refine (s_l30Put _ _ 1 y 0 _ w2.heap.size HO.out hvl HX.out.size).mono ?_
        rintro e w3 ⟨v', rfl, ho3, hg3⟩
        go_wp2
        go_roundw
        case rel => exact ⟨k + 1, by omega, by go_num, by rw [HT.out]; exact ho3, ext_appS HX.out hg3 (fun g hg => (own_blocks HO.out g hg).1)⟩
        case measure => simp [intOf]; omega
      · have hkl : vs.take k = vs := List.take_of_length_le (by omega)
        rw [hkl] at HO
        obtain rfl : k = vs.length := by omega
        clear hkl
        obtain ⟨G0, hG0⟩ : ∃ G0, varG vs ++ [⟨2, 0, 0⟩, ⟨3, 0, 0⟩] = G0 := ⟨_, rfl⟩
        have HVL : Hid (G0.length = vs.length + 2) := hd (by rw [← hG0]; simp)
        obtain ⟨SS, hSS⟩ : ∃ SS : Nat → List Gat × Int, orsS vs.length vs.length (G0, (vs.length : Int) + 1) ls = SS := ⟨_, rfl⟩
        have HS0 : Hid (SS 0 = (G0, (vs.length : Int) + 1)) := hd (by rw [← hSS]; rfl)
        have HSL : Hid (∀ k, k ≤ 64 → (SS k).1.length ≤ 2000) := hd fun k hk => by
          have h1 := orsS_len vs.length vs.length (G0, (vs.length : Int) + 1) ls k
          have h2 : k * (vs.length + 1) ≤ 64 * 7 := Nat.mul_le_mul hk (by omega)
          rw [hSS] at h1
          have h3 := HVL.out
          dsimp only at h1
          omega
        have HSS : Hid (∀ k, SS (k + 1) = orS vs.length vs.length (SS k) (ls.getD k 0).toNat) := hd fun _ => by rw [← hSS]; rfl
        have HFIN : Hid (CV = (SS ls.length).1) := hd (by rw [HCV.out, HHG.out, hG0, hSS])
        have HG0 := hd hG0
        have hvb : (hullV f j).length ≤ 1048576 := hullV_bd f j
        clear hG0 hSS HCV HHG HSat
        have hvl2 : (varG vs).length + 2 ≤ 536870912 := by simp; omega
        go_wp2_with (at_builtin; refine appG2 wr 2 0 0 3 0 0 HO.out rfl _ _ rfl (by rfl) (by rfl) (by simp) hvl2 HX.out.size ?_; intro v4 w4 ho4 hg4 hb4; have ho5 : OwnG w4 w2.heap.size v4 G0 := (by rw [← HG0.out]; exact ho4); obtain ⟨A5, c5, rfl⟩ := OwnG.form2 ho5 (n := vs.length + 2) HVL.out; have HO4 := hd ho5; have HX4 : Hid (Ext w2 w4) := hd (ext_appS HX.out hg4 (fun g hg => (own_blocks HO.out g hg).1)); clear ho4 ho5 hg4 hb4)
        refine (s_l30Least (hullV f j) u _ (HU2.out.ext HX4.out) hvb).mono ?_
        rintro e w5 ⟨u5, rfl, hu5, hx5⟩
        rw [HLV.out] at hu5
        have HO5 := hd (own_ext HO4.out hx5)
        have HX5 := hd (HX4.out.trans hx5)
        have HL5 := hd hu5
        obtain ⟨A6, c6, rfl, -, -, -⟩ := hu5.rd.form
        clear hx5 hu5 HO4 HX4 HO HX HU2 HU HS
        go_wp2
        go_loopw [16, 11, 14, 17, 18] (fun i g su _ _ wr => ∃ k : Nat, k ≤ ls.length ∧ i = .int .i64 (k : Int) ∧ OwnG wr w2.heap.size g (SS k).1 ∧ su = .int .i64 (SS k).2 ∧ OwnI wr w4.heap.size 3 (.slice A6 ls.length c6) ls ∧ Ext w2 wr) (fun i _ _ _ _ _ => ls.length - (intOf i).toNat)
        case atStart => exact ⟨0, by omega, rfl, by rw [HS0.out]; exact HO5.out, by rw [HS0.out], HL5.out, HX5.out⟩
        case round =>
          clear HO5 HL5 HX5
          obtain ⟨k, hk, rfl, ho, rfl, hl, hx⟩ := hrel
          have hsl := HSL.out k (by omega)
          by_cases hlt : k < ls.length
          · have hle := HLE.out _ (List.getElem_mem hlt)
            obtain ⟨n, hn⟩ := Int.eq_ofNat_of_zero_le hle.1
            have HST : Hid (SS (k + 1) = orS vs.length vs.length (SS k) n) := hd (by
              rw [HSS.out, List.getD_eq_getElem?_getD, List.getElem?_eq_getElem hlt]
              show orS _ _ _ (ls[k]).toNat = _
              rw [hn]; rfl)
            have HLK : Hid (ls[k]? = some (n : Int)) := hd (by rw [List.getElem?_eq_getElem hlt, hn])
            have hnb : n < 1048576 := by omega
            obtain ⟨⟨g1, z1⟩, hS⟩ : ∃ s, SS k = s := ⟨_, rfl⟩
            rw [hS] at ho HST hsl ⊢
            dsimp only at ho hsl ⊢
            have HO := hd ho
            have HL := hd hl
            have HX := hd hx
            have hal := fun m => andS_len n vs.length g1 m
            have HA0 : Hid (andS n vs.length g1 0 = (g1, (vs.length : Int))) := hd rfl
            clear ho hl hx hle hn hS
            go_wp2
            go_loopw [18, 11, 17] (fun i g at_ wr2 => ∃ m : Nat, m ≤ vs.length ∧ i = .int .i64 (m : Int) ∧ OwnG wr2 w2.heap.size g (andS n vs.length g1 m).1 ∧ at_ = .int .i64 (andS n vs.length g1 m).2 ∧ OwnI wr2 w4.heap.size 3 (.slice A6 ls.length c6) ls ∧ Ext w2 wr2) (fun i _ _ _ => vs.length - (intOf i).toNat)
            case atStart => exact ⟨0, by omega, rfl, by rw [HA0.out]; exact HO.out, by rw [HA0.out], HL.out, HX.out⟩
            case round =>
              clear HO HL HX HA0
              obtain ⟨m, hm, rfl, ho, rfl, hl, hx⟩ := hrel
              have hA1 : (andS n vs.length g1 (m + 1)) = if bitN n m = 1 then ((andS n vs.length g1 m).1 ++ [⟨5, (andS n vs.length g1 m).2, (m : Int)⟩], ((andS n vs.length g1 m).1.length : Int)) else andS n vs.length g1 m := rfl
              have hAL := hal m
              obtain ⟨⟨ga, za⟩, hS⟩ : ∃ s, andS n vs.length g1 m = s := ⟨_, rfl⟩
              rw [hS] at ho hA1 hAL ⊢
              dsimp only at ho hA1 hAL ⊢
              obtain ⟨gn, hgn⟩ : ∃ gn, ga.length = gn := ⟨_, rfl⟩
              rw [hgn] at hA1 hAL
              have HGN := hd hgn
              have HO := hd ho
              have HL := hd hl
              have HX := hd hx
              clear ho hl hx hgn
              by_cases hlt2 : m < vs.length
              · have hsh := shr_and (b := n) (k := m) (by omega)
                have hbl := bitN_lt n m
                obtain ⟨a, c9, e9, -, -, hlr⟩ := HL.out.rd.form
                obtain ⟨rfl, rfl⟩ : A6 = a ∧ c6 = c9 := by injection e9 with e1 e2 e3; exact ⟨e1, e3⟩
                obtain ⟨a, rfl, hc0⟩ := RdI.at_ hlr hlt
                have hc1 : wr.cell? (a.add k) = some (.int .i64 (n : Int)) := by
                  rw [hc0]
                  have := HLK.out
                  rw [List.getElem?_eq_getElem hlt] at this
                  rw [Option.some.inj this]
                clear hc0 hlr e9
                have g1' : (0 : Int) ≤ (k : Int) := by omega
                have g2' : (k : Int) < (ls.length : Int) := by omega
                by_cases hb : bitN n m = 1
                · rw [hb] at hsh
                  rw [if_pos hb] at hA1
                  have HA1 := hd hA1
                  clear hA1 hS hb
                  go_wp2_with fail
                  refine (s_l30Put ga _ 5 za m _ w2.heap.size HO.out (by rw [HGN.out]; omega) HX.out.size).mono ?_
                  rintro e w6 ⟨v6, rfl, ho6, hg6⟩
                  obtain ⟨A7, c7, rfl⟩ := OwnG.form2 ho6 (n := gn + 1) (by rw [List.length_append, HGN.out]; rfl)
                  have HO6 := hd ho6
                  have HL6 : Hid (OwnI w6 w4.heap.size 3 (.slice (some a) ls.length c6) ls) := hd (own_grown HL.out hg6 (fun b h1 h2 => own_ne HL.out HO.out (by decide) h1 h2))
                  have HX6 := hd (ext_appS HX.out hg6 (fun g hg => (own_blocks HO.out g hg).1))
                  clear ho6 hg6 hc1
                  go_wp2
                  go_roundw
                  case rel => exact ⟨m + 1, by omega, by go_num, by rw [HA1.out]; exact HO6.out, by rw [HA1.out], HL6.out, HX6.out⟩
                  case measure => simp [intOf]; omega
                · have hb0 : bitN n m = 0 := by omega
                  rw [hb0] at hsh
                  rw [if_neg hb] at hA1
                  have HA1 := hd hA1
                  clear hA1 hS hb hb0
                  go_wp2
                  go_roundw
                  case rel => exact ⟨m + 1, by omega, by go_num, by rw [HA1.out]; exact HO.out, by rw [HA1.out], HL.out, HX.out⟩
                  case measure => simp [intOf]; omega
              · obtain rfl : m = vs.length := by omega
                have HST2 : Hid (SS (k + 1) = (ga ++ [⟨6, z1, za⟩], (gn : Int))) := hd (by rw [HST.out, orS]; dsimp only; rw [hS]; dsimp only; rw [HGN.out])
                clear hA1 hS HST
                go_wp2_with fail
                refine (s_l30Put ga _ 6 z1 za _ w2.heap.size HO.out (by rw [HGN.out]; omega) HX.out.size).mono ?_
                rintro e w6 ⟨v6, rfl, ho6, hg6⟩
                obtain ⟨A7, c7, rfl⟩ := OwnG.form2 ho6 (n := gn + 1) (by rw [List.length_append, HGN.out]; rfl)
                have HO6 := hd ho6
                have HL6 : Hid (OwnI w6 w4.heap.size 3 (.slice A6 ls.length c6) ls) := hd (own_grown HL.out hg6 (fun b h1 h2 => own_ne HL.out HO.out (by decide) h1 h2))
                have HX6 := hd (ext_appS HX.out hg6 (fun g hg => (own_blocks HO.out g hg).1))
                clear ho6 hg6
                go_wp2
                go_roundw
                case rel => exact ⟨k + 1, by omega, by go_num, by rw [HST2.out]; exact HO6.out, by rw [HST2.out], HL6.out, HX6.out⟩
                case measure => simp [intOf]; omega
          · obtain rfl : k = ls.length := by omega
            rw [← HFIN.out] at ho hsl
            have HO := hd ho
            have HX := hd hx
            obtain ⟨A7, c7, rfl⟩ := OwnG.form ho
            clear ho hx hl
            have hsz2 : w.heap.size ≤ w2.heap.size := X2.out.size
            by_cases h200 : CV.length ≤ 200
            · have HE : Hid (hullCB f (j : Int) = true) := hd (by rw [HCB.out, decide_eq_true h200]; rfl)
              have HE2 : Hid (hullCO f (j : Int) = CV) := hd (by rw [HCO.out, HE.out]; rfl)
              go_wp2_with fail
              refine (s_l30Give_yes CV A7 c7 _ h200).mono ?_
              rintro e w6 ⟨rfl, rfl⟩
              go_wp2
              go_ret2
              have h9 := own_rebase (base' := w.heap.size) HO.out hsz2
              exact ⟨_, by rw [HE.out]; rfl, by rw [HE2.out]; exact ⟨h9, own_lt h9⟩, X2.out.trans HX.out⟩
            · have HE : Hid (hullCB f (j : Int) = false) := hd (by rw [HCB.out, decide_eq_false h200]; rfl)
              have HE2 : Hid (hullCO f (j : Int) = []) := hd (by rw [HCO.out, HE.out]; rfl)
              go_wp2_with fail
              refine (s_l30Give_no CV A7 c7 _ (by omega) (by omega)).mono ?_
              rintro e w6 ⟨u6, rfl, ho6, hx6⟩
              go_wp2
              go_ret2
              have h9 := own_rebase (base' := w.heap.size) ho6 (by have := HX.out.size; omega)
              exact ⟨_, by rw [HE.out]; rfl, by rw [HE2.out]; exact ⟨h9, own_lt h9⟩, (X2.out.trans HX.out).trans hx6⟩
end Go.Proofs.Ytlegfibfjhfkhaa
