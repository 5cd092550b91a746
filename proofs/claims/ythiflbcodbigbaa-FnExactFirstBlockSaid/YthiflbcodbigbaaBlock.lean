/-
  FirstBlock and HasMonotone of both sides. Conditions: sizes up to 2^20.
-/
import Derived.Test.YthiflbcodbigbaaHull
import Derived.Test.YthiflbcodbigbaaWeakS
namespace Go.Proofs.Ythiflbcodbigbaa
open Go.RowKit
/-- The pair (m, n) hinders: strong at m, not weak at n, m below n. -/
def blkP (sv wv : List Bool) (m n : Nat) : Bool := sv.getD m false && !wv.getD n false && belowB m n
def blkN (sv wv : List Bool) (m : Nat) : Option Nat := (List.range wv.length).find? (blkP sv wv m)
def blkO (sv wv : List Bool) : Option (Nat × Nat) := (List.range sv.length).findSome? fun m => (blkN sv wv m).map fun n => (m, n)
theorem find_first {p : Nat → Bool} {n N : Nat} (hn : n < N) (h : ∀ j, j < n → p j = false) (hp : p n = true) : (List.range N).find? p = some n := by
  rw [List.find?_eq_some_iff_append]
  refine ⟨hp, List.range n, (List.range (N - n - 1)).map (n + 1 + ·), ?_, fun a ha => by rw [h a (List.mem_range.1 ha)]; rfl⟩
  refine List.ext_getElem (by simp; omega) fun i h1 h2 => ?_
  simp only [List.getElem_range]
  by_cases hi : i < n
  · rw [List.getElem_append_left (by simpa using hi)]; simp
  · rw [List.getElem_append_right (by simpa using hi)]
    simp only [List.length_range, List.getElem_cons]
    split
    · omega
    · simp; omega
theorem blkN_none {sv wv : List Bool} {m : Nat} (h : ∀ j, j < wv.length → blkP sv wv m j = false) : blkN sv wv m = none := by
  unfold blkN
  rw [List.find?_eq_none]
  intro x hx
  rw [h x (List.mem_range.1 hx)]
  simp
theorem blkO_some {sv wv : List Bool} {m n : Nat} (hm : m < sv.length) (hn : n < wv.length) (h : ∀ i, i < m → ∀ j, j < wv.length → blkP sv wv i j = false) (h' : ∀ j, j < n → blkP sv wv m j = false) (hp : blkP sv wv m n = true) : blkO sv wv = some (m, n) := by
  unfold blkO
  have hN : blkN sv wv m = some n := find_first hn h' hp
  have e : List.range sv.length = List.range m ++ m :: ((List.range (sv.length - m - 1)).map (m + 1 + ·)) := by
    refine List.ext_getElem (by simp; omega) fun i h1 h2 => ?_
    simp only [List.getElem_range]
    by_cases hi : i < m
    · rw [List.getElem_append_left (by simpa using hi)]; simp
    · rw [List.getElem_append_right (by simpa using hi)]
      simp only [List.length_range, List.getElem_cons]
      split
      · omega
      · simp; omega
  rw [e, List.findSome?_append, List.findSome?_eq_none_iff.2 (fun x hx => by rw [blkN_none (h x (List.mem_range.1 hx))]; rfl)]
  simp [hN]
theorem blkO_none {sv wv : List Bool} (h : ∀ i, i < sv.length → ∀ j, j < wv.length → blkP sv wv i j = false) : blkO sv wv = none := by
  unfold blkO
  rw [List.findSome?_eq_none_iff]
  intro x hx
  rw [blkN_none (h x (List.mem_range.1 hx))]
  rfl
theorem lt_snoc {n : Nat} {p : Nat → Bool} (h : ∀ j, j < n → p j = false) (hn : p n = false) : ∀ j, j < n + 1 → p j = false := fun j hj => by
  by_cases e : j = n
  · subst e; exact hn
  · exact h j (by omega)
theorem getD_at' {vs : List Bool} {k : Nat} (h : k < vs.length) : vs.getD k false = vs[k] := by simp [List.getD, h]
def pairV : Option (Nat × Nat) → Value
  | some (a, b) => .agg #[.int .i64 (a : Int), .int .i64 (b : Int)]
  | none => .agg #[.int .i64 0, .int .i64 0]
def blockV (f : Cnf) (k : Int) : Option (Nat × Nat) := if sharedB f k then blkO (strongV f k) (weakV f k) else none
theorem ext_set2 {w wr : World} {b : Nat} (h : Ext w wr) (hb : w.heap.size ≤ b) (u v : Value) : Ext w ((wr.setCell ⟨b, 0, none⟩ u).setCell ⟨b, 1, none⟩ v) := (h.setCell (by exact hb) _).setCell (by exact hb) _
set_option maxRecDepth 100000 in
set_option maxHeartbeats 3200000 in
theorem s_l30Block (f : Cnf) (v : Value) (ki : Int) (w : World) (h : Rd_Cnf w v f) (b : Bd_Cnf f) (hi : I64_Cnf f) (hk : I64 ki) :
    Calls Try.prog 103 #[v, .int .i64 ki] w (RetX w (.tuple #[pairV (blockV f ki), .bool (blockV f ki).isSome, .bool (sharedB f ki)])) := by
  obtain ⟨A, c, rfl⟩ := h.form
  have X0 : Hid (Ext w ((w.alloc (.cells #[.int .i64 f.n, .slice A f.cs.length c] 28)).alloc (.cells #[.int .i64 0, .int .i64 0] 57))) := hd ((Ext.new _ _).alloc _)
  have HV := hd (h.ext X0.out)
  have HB := hd b
  have HI := hd hi
  have HK := hd hk
  have HB0 := hd (blk_old (o' := .cells #[.int .i64 0, .int .i64 0] 57) (blk_new (w := w) (.cells #[.int .i64 f.n, .slice A f.cs.length c] 28) rfl))
  have HB4 : Hid (((w.alloc (.cells #[.int .i64 f.n, .slice A f.cs.length c] 28)).alloc (.cells #[.int .i64 0, .int .i64 0] 57)).heap[w.heap.size + 1]? = some (.cells #[.int .i64 0, .int .i64 0] 57)) := hd (blk_new _ (by simp))
  clear h b hi hk
  obtain ⟨q, hq⟩ : ∃ q, sharedB f ki = q := ⟨_, rfl⟩
  have HQ := hd hq
  clear hq
  go_enter Try.func103, Try.ntmps103
  go_wp2_with fail
  refine (s_StrongestValues f _ ki _ HV.out HB.out HI.out HK.out).mono ?_
  rw [HQ.out]
  rintro e w1 ⟨u1, rfl, hu1, hx1⟩
  have X1 := hd (X0.out.trans hx1)
  have HV1 := hd (HV.out.ext hx1)
  have HB01 := hd (hx1.heap HB0.out)
  have HB41 := hd (hx1.heap HB4.out)
  have HU1 := hd hu1.rd
  obtain ⟨c0, c1⟩ := blk2 HB01.out
  clear hx1 hu1 X0 HV HB0 HB4
  go_wp2_with fail
  refine (s_WeakestValues f _ ki _ HV1.out HB.out HI.out HK.out).mono ?_
  rw [HQ.out]
  rintro e w2 ⟨u2, rfl, hu2, hx2⟩
  have X2 := hd (X1.out.trans hx2)
  have HB42 := hd (hx2.heap HB41.out)
  have HS2 := hd (HU1.out.ext hx2)
  have HW2 := hd hu2.rd
  obtain ⟨d0, d1⟩ := blk2 HB42.out
  obtain ⟨g0, g1⟩ := blk2f HB42.out
  clear hx2 hu2 HU1 HB41 HB01 HV1 X1 c0 c1
  cases q
  · have HE : Hid (blockV f ki = none) := hd (by unfold blockV; rw [HQ.out]; rfl)
    go_wp2
    exact bodyPost_ret (v := .tuple #[.agg #[.int .i64 0, .int .i64 0], .bool false, .bool false]) (by simp [results, Try.results103, go_sem, d0, d1]) rfl (RetX.mk (by rw [HE.out, HQ.out]; rfl) (ext_set2 X2.out (by omega) _ _))
  · obtain ⟨A1, k1, rfl, m1, n1, ha⟩ := HS2.out.form
    obtain ⟨A2, k2, rfl, m2, n2, hb⟩ := HW2.out.form
    have hl1 := strongV_bd f ki
    have hl2 := weakV_bd f ki
    have HBV : Hid (blockV f ki = blkO (strongV f ki) (weakV f ki)) := hd (by unfold blockV; rw [HQ.out]; rfl)
    unfold Bd_BoolS at hl1 hl2
    clear HS2 HW2
    generalize strongV f ki = SV at *
    generalize weakV f ki = WV at *
    go_wp2
    go_loop [11] (fun i => ∃ m : Nat, m ≤ SV.length ∧ i = .int .i64 m ∧ Hid (∀ i, i < m → ∀ j, j < WV.length → blkP SV WV i j = false)) (fun i => SV.length - (intOf i).toNat)
    case atStart => exact ⟨0, by omega, rfl, hd fun i hi => by omega⟩
    case round =>
      obtain ⟨m, hm, rfl, HM⟩ := hrel
      by_cases hlt : m < SV.length
      · obtain ⟨a1, rfl, hc1⟩ := RdB.at_ ha hlt
        have HG1 := hd (getD_at' hlt)
        generalize SV[m] = y at *
        go_wp2
        go_loop [12] (fun i => ∃ n : Nat, n ≤ WV.length ∧ i = .int .i64 n ∧ Hid (∀ j, j < n → blkP SV WV m j = false)) (fun i => WV.length - (intOf i).toNat)
        case atStart => exact ⟨0, by omega, rfl, hd fun i hi => by omega⟩
        case round =>
          obtain ⟨n, hn, rfl, HN⟩ := hrel
          by_cases hlt2 : n < WV.length
          · obtain ⟨a2, rfl, hc2⟩ := RdB.at_ hb hlt2
            have HG2 := hd (getD_at' hlt2)
            generalize WV[n] = z at *
            have hband := and64 m n (by omega) (by omega)
            have heq : (((m &&& n : Nat) : Int) == (m : Int)) = belowB m n := natcast_beq _ _
            have HP : Hid (blkP SV WV m n = (y && !z && belowB m n)) := hd (by unfold blkP; rw [HG1.out, HG2.out])
            generalize belowB m n = x at *
            cases y <;> cases z <;> cases x
            all_goals first
              | (have HPF : blkP SV WV m n = false := HP.out
                 have HN2 : Hid (∀ j, j < n + 1 → blkP SV WV m j = false) := hd (lt_snoc HN.out HPF)
                 clear HPF
                 go_wp2
                 go_round
                 case rel => exact ⟨n + 1, by omega, by go_num, HN2⟩
                 case measure => simp [intOf]; omega)
              | (have HE : Hid (blockV f ki = some (m, n)) := hd (by rw [HBV.out]; exact blkO_some hlt hlt2 HM.out HN.out HP.out)
                 go_wp2
                 exact bodyPost_ret (v := .tuple #[.agg #[.int .i64 (m : Int), .int .i64 (n : Int)], .bool true, .bool true]) (by simp [results, Try.results103, go_sem, d0, d1]) rfl (RetX.mk (by rw [HE.out, HQ.out]; rfl) (ext_set2 X2.out (by omega) _ _)))
          · have HM2 : Hid (∀ i, i < m + 1 → ∀ j, j < WV.length → blkP SV WV i j = false) := hd fun i hi j hj => by
              by_cases e : i = m
              · subst e; exact HN.out j (by omega)
              · exact HM.out i (by omega) j hj
            go_wp2
            go_round
            case rel => exact ⟨m + 1, by omega, by go_num, HM2⟩
            case measure => simp [intOf]; omega
      · have HE : Hid (blockV f ki = none) := hd (by rw [HBV.out]; exact blkO_none fun i hi => HM.out i (by omega))
        go_wp2
        exact bodyPost_ret (v := .tuple #[.agg #[.int .i64 0, .int .i64 0], .bool false, .bool true]) (by simp [results, Try.results103, go_sem, d0, d1]) rfl (RetX.mk (by rw [HE.out, HQ.out]; rfl) (ext_set2 X2.out (by omega) _ _))
set_option maxRecDepth 100000 in
set_option maxHeartbeats 3200000 in
theorem i_block (f : Cnf) (k : Nat) (v : Value) (w : World) (h : RdSp w v f k (bothV f k f.n.toNat)) (hg : goodB f = true) (hk : k ≤ f.cs.length) (h6 : (bothV f k f.n.toNat).length ≤ 6) (SV WV : List Bool)
    (hSV : SV = possV (bothV f k f.n.toNat) (f.cs.take k) (2 ^ f.n.toNat)) (hWV : WV = (possV (bothV f k f.n.toNat) (f.cs.drop k) (2 ^ f.n.toNat)).map (!·)) :
    Calls Try.prog 104 #[v] w (RetX w (.tuple #[pairV (blkO SV WV), .bool (blkO SV WV).isSome])) := by
  have hCS : Hid (∀ w', RdSp w' v f k (bothV f k f.n.toNat) → Calls Try.prog 91 #[v] w' (RetB w' 4 SV)) := hd fun w' hw => by rw [hSV]; exact i_strongest f k v w' hw hg hk h6
  have hCW : Hid (∀ w', RdSp w' v f k (bothV f k f.n.toNat) → Calls Try.prog 90 #[v] w' (RetB w' 4 WV)) := hd fun w' hw => by rw [hWV]; exact i_weakest f k v w' hw hg hk h6
  have hp6 := pow6 h6
  have hl1 : SV.length ≤ 64 := by rw [hSV, possV_len]; exact hp6
  have hl2 : WV.length ≤ 64 := by rw [hWV, List.length_map, possV_len]; exact hp6
  have X0 : Hid (Ext w (w.alloc (.cells #[.int .i64 0, .int .i64 0] 57))) := hd (Ext.new _ _)
  have HS := hd (h.ext X0.out)
  have HB4 := hd (blk_new (w := w) (.cells #[.int .i64 0, .int .i64 0] 57) rfl)
  clear h hg hk h6 hSV hWV hp6
  go_enter Try.func104, Try.ntmps104
  go_wp2_with fail
  refine (hCW.out _ HS.out).mono ?_
  rintro e w1 ⟨u1, rfl, hu1, hx1⟩
  have X1 := hd (X0.out.trans hx1)
  have HS1 := hd (HS.out.ext hx1)
  have HB41 := hd (hx1.heap HB4.out)
  have HU1 := hd hu1.rd
  clear hx1 hu1 X0 HS HB4 hCW
  go_wp2_with fail
  refine (hCS.out _ HS1.out).mono ?_
  rintro e w2 ⟨u2, rfl, hu2, hx2⟩
  have X2 := hd (X1.out.trans hx2)
  have HB42 := hd (hx2.heap HB41.out)
  have HW2 := hd (HU1.out.ext hx2)
  obtain ⟨d0, d1⟩ := blk2 HB42.out
  obtain ⟨g0, g1⟩ := blk2f HB42.out
  obtain ⟨A1, k1, rfl, m1, n1, ha⟩ := hu2.rd.form
  obtain ⟨A2, k2, rfl, m2, n2, hb⟩ := HW2.out.form
  clear hx2 hu2 HU1 HB41 HS1 X1 HW2 hCS
  go_wp2
  go_loop [13, 5, 6] (fun i _ _ => ∃ m : Nat, m ≤ SV.length ∧ i = .int .i64 m ∧ Hid (∀ i, i < m → ∀ j, j < WV.length → blkP SV WV i j = false)) (fun i _ _ => SV.length - (intOf i).toNat)
  case atStart => exact ⟨0, by omega, rfl, hd fun i hi => by omega⟩
  case round =>
    obtain ⟨m, hm, rfl, HM⟩ := hrel
    by_cases hlt : m < SV.length
    · obtain ⟨a1, rfl, hc1⟩ := RdB.at_ ha hlt
      have HG1 := hd (getD_at' hlt)
      generalize SV[m] = y at *
      go_wp2
      go_loop [20, 7] (fun i _ => ∃ n : Nat, n ≤ WV.length ∧ i = .int .i64 n ∧ Hid (∀ j, j < n → blkP SV WV m j = false)) (fun i _ => WV.length - (intOf i).toNat)
      case atStart => exact ⟨0, by omega, rfl, hd fun i hi => by omega⟩
      case round =>
        obtain ⟨n, hn, rfl, HN⟩ := hrel
        by_cases hlt2 : n < WV.length
        · obtain ⟨a2, rfl, hc2⟩ := RdB.at_ hb hlt2
          have HG2 := hd (getD_at' hlt2)
          generalize WV[n] = z at *
          have HP : Hid (blkP SV WV m n = (y && !z && belowB m n)) := hd (by unfold blkP; rw [HG1.out, HG2.out])
          have HBB : Hid (belowB m n = belowB m n) := hd rfl
          obtain ⟨x, hxx⟩ : ∃ x, belowB m n = x := ⟨_, rfl⟩
          rw [hxx] at HP
          have HBL := hd hxx
          clear hxx HBB
          cases y <;> cases z <;> cases x
          all_goals first
            | (have HPF : blkP SV WV m n = false := HP.out
               have HN2 : Hid (∀ j, j < n + 1 → blkP SV WV m j = false) := hd (lt_snoc HN.out HPF)
               clear HPF
               go_wp2_with (go_at_call 147; refine (rt (i_below m n _ (by omega) (by omega)) HBL).mono ?_; rintro e w9 ⟨rfl, rfl⟩)
               go_round
               case rel => exact ⟨n + 1, by omega, by go_num, HN2⟩
               case measure => simp [intOf]; omega)
            | (have HE : Hid (blkO SV WV = some (m, n)) := hd (blkO_some hlt hlt2 HM.out HN.out HP.out)
               go_wp2_with (go_at_call 147; refine (rt (i_below m n _ (by omega) (by omega)) HBL).mono ?_; rintro e w9 ⟨rfl, rfl⟩)
               exact bodyPost_ret (v := .tuple #[.agg #[.int .i64 (m : Int), .int .i64 (n : Int)], .bool true]) (by simp [results, Try.results104, go_sem, d0, d1]) rfl (RetX.mk (by rw [HE.out]; rfl) (ext_set2 X2.out (by omega) _ _)))
        · have HM2 : Hid (∀ i, i < m + 1 → ∀ j, j < WV.length → blkP SV WV i j = false) := hd fun i hi j hj => by
            by_cases e : i = m
            · subst e; exact HN.out j (by omega)
            · exact HM.out i (by omega) j hj
          go_wp2
          go_round
          case rel => exact ⟨m + 1, by omega, by go_num, HM2⟩
          case measure => simp [intOf]; omega
    · have HE : Hid (blkO SV WV = none) := hd (blkO_none fun i hi => HM.out i (by omega))
      go_wp2
      exact bodyPost_ret (v := .tuple #[.agg #[.int .i64 0, .int .i64 0], .bool false]) (by simp [results, Try.results104, go_sem, d0, d1]) rfl (RetX.mk (by rw [HE.out]; rfl) (ext_set2 X2.out (by omega) _ _))
theorem pairV_form (o : Option (Nat × Nat)) : ∃ x y : Int, pairV o = .agg #[.int .i64 x, .int .i64 y] := by
  cases o with
  | none => exact ⟨0, 0, rfl⟩
  | some p => exact ⟨_, _, rfl⟩
set_option maxRecDepth 100000 in
set_option maxHeartbeats 1600000 in
theorem s_FirstBlock (f : Cnf) (v : Value) (ki : Int) (w : World) (h : Rd_Cnf w v f) (b : Bd_Cnf f) (hi : I64_Cnf f) (hk : I64 ki) :
    Calls Try.prog 55 #[v, .int .i64 ki] w (RetX w (.tuple #[pairV (blockV f ki), .bool (blockV f ki).isSome])) := by
  obtain ⟨A, c, rfl⟩ := h.form
  have X0 : Hid (Ext w ((w.alloc (.cells #[.int .i64 f.n, .slice A f.cs.length c] 28)).alloc (.cells #[.int .i64 0, .int .i64 0] 57))) := hd ((Ext.new _ _).alloc _)
  have HC := hd (s_l30Block f _ ki _ (h.ext X0.out) b hi hk)
  have HB4 : Hid (((w.alloc (.cells #[.int .i64 f.n, .slice A f.cs.length c] 28)).alloc (.cells #[.int .i64 0, .int .i64 0] 57)).heap[w.heap.size + 1]? = some (.cells #[.int .i64 0, .int .i64 0] 57)) := hd (blk_new _ (by simp))
  obtain ⟨x, y, hxy⟩ := pairV_form (blockV f ki)
  have HXY := hd hxy
  rw [hxy] at HC ⊢
  clear h b hi hk hxy
  generalize (blockV f ki).isSome = bs at *
  generalize sharedB f ki = sh at *
  go_enter Try.func55, Try.ntmps55
  go_wp2_with fail
  refine HC.out.mono ?_
  rintro e w1 ⟨rfl, hx1⟩
  have X1 := hd (X0.out.trans hx1)
  have HB5 := hd (blk_old (o' := .cells #[.int .i64 x, .int .i64 y] 57) (hx1.heap HB4.out))
  have HB6 := hd (blk_new (w := w1) (.cells #[.int .i64 x, .int .i64 y] 57) rfl)
  obtain ⟨d0, d1⟩ := blk2 HB5.out
  obtain ⟨g0, g1⟩ := blk2f HB5.out
  obtain ⟨e0, e1⟩ := blk2 HB6.out
  clear hx1 HC HB4 X0
  go_wp2
  exact bodyPost_ret (v := .tuple #[.agg #[.int .i64 x, .int .i64 y], .bool bs]) (by simp [results, Try.results55, go_sem, d0, d1]) rfl (RetX.mk rfl (ext_set2 (X1.out.alloc _) (by omega) _ _))
set_option maxRecDepth 100000 in
set_option maxHeartbeats 1600000 in
def monoV (f : Cnf) (k : Int) : Bool := if sharedB f k then !(blockV f k).isSome else false
theorem s_HasMonotone (f : Cnf) (v : Value) (ki : Int) (w : World) (h : Rd_Cnf w v f) (b : Bd_Cnf f) (hi : I64_Cnf f) (hk : I64 ki) :
    Calls Try.prog 53 #[v, .int .i64 ki] w (RetX w (.tuple #[.bool (monoV f ki), .bool (sharedB f ki)])) := by
  obtain ⟨A, c, rfl⟩ := h.form
  have X0 : Hid (Ext w (w.alloc (.cells #[.int .i64 f.n, .slice A f.cs.length c] 28))) := hd (Ext.new _ _)
  have HC := hd (s_l30Block f _ ki _ (h.ext X0.out) b hi hk)
  obtain ⟨x, y, hxy⟩ := pairV_form (blockV f ki)
  rw [hxy] at HC
  have HM : Hid (monoV f ki = if sharedB f ki then !(blockV f ki).isSome else false) := hd rfl
  clear h b hi hk hxy
  generalize (blockV f ki).isSome = bs at *
  generalize sharedB f ki = sh at *
  go_enter Try.func53, Try.ntmps53
  go_wp2_with fail
  refine HC.out.mono ?_
  rintro e w1 ⟨rfl, hx1⟩
  have X1 := hd (X0.out.trans hx1)
  clear hx1 HC X0
  cases sh
  · go_wp2
    go_ret2
    exact RetX.mk (by rw [HM.out]; rfl) (X1.out.alloc _)
  · go_wp2
    go_ret2
    exact RetX.mk (by rw [HM.out]; rfl) (X1.out.alloc _)
set_option maxRecDepth 100000 in
set_option maxHeartbeats 1600000 in
theorem i_FirstBlock (f : Cnf) (v : Value) (ki : Int) (w : World) (h : Rd_Cnf w v f) (b : Bd_Cnf f) (_ : I64_Cnf f) (_ : I64 ki) :
    Calls Try.prog 56 #[v, .int .i64 ki] w (RetX w (.tuple #[pairV (blockV f ki), .bool (blockV f ki).isSome])) := by
  obtain ⟨A, c, rfl⟩ := h.form
  have X0 : Hid (Ext w ((w.alloc (.cells #[.int .i64 f.n, .slice A f.cs.length c] 28)).alloc (.cells #[.int .i64 0, .int .i64 0] 57))) := hd ((Ext.new _ _).alloc _)
  have HV := hd (h.ext X0.out)
  have HB := hd b
  have HB4 : Hid (((w.alloc (.cells #[.int .i64 f.n, .slice A f.cs.length c] 28)).alloc (.cells #[.int .i64 0, .int .i64 0] 57)).heap[w.heap.size + 1]? = some (.cells #[.int .i64 0, .int .i64 0] 57)) := hd (blk_new _ (by simp))
  clear h b
  obtain ⟨q, hq⟩ : ∃ q, sharedB f ki = q := ⟨_, rfl⟩
  have HQ := hd hq
  cases q
  · have HE : Hid (blockV f ki = none) := hd (by unfold blockV; rw [hq]; rfl)
    clear hq
    go_enter Try.func56, Try.ntmps56
    go_wp2_with fail
    refine (i_sharedSplit_no f _ ki _ HV.out HB.out HQ.out).mono ?_
    rintro e w1 ⟨p, rfl, hx1⟩
    have X1 := hd (X0.out.trans hx1)
    obtain ⟨d0, d1⟩ := blk2 (hx1.heap HB4.out)
    obtain ⟨g0, g1⟩ := blk2f (hx1.heap HB4.out)
    clear hx1
    go_wp2
    exact bodyPost_ret (v := .tuple #[.agg #[.int .i64 0, .int .i64 0], .bool false]) (by simp [results, Try.results56, go_sem, d0, d1]) rfl (RetX.mk (by rw [HE.out]; rfl) (ext_set2 X1.out (by omega) _ _))
  · obtain ⟨hg, j, rfl, hj, h6, hsv, hwv⟩ := shared_inv hq
    have HE : Hid (blockV f j = blkO (strongV f j) (weakV f j)) := hd (by unfold blockV; rw [hq]; rfl)
    have HC : Hid (∀ w' p, RdSp w' p f j (bothV f j f.n.toNat) → Calls Try.prog 104 #[p] w' (RetX w' (.tuple #[pairV (blockV f j), .bool (blockV f j).isSome]))) := hd fun w' p hp => by rw [HE.out]; exact i_block f j p w' hp hg hj h6 _ _ hsv hwv
    have HG := hd hg
    have HJ := hd hj
    have H6 := hd h6
    obtain ⟨x, y, hxy⟩ := pairV_form (blockV f j)
    rw [hxy] at HC ⊢
    clear hg hj hq h6 hsv hwv hxy HE
    generalize (blockV f j).isSome = bs at *
    go_enter Try.func56, Try.ntmps56
    go_wp2_with fail
    refine (i_sharedSplit_yes f _ j _ HV.out HB.out HG.out HJ.out H6.out).mono ?_
    rintro e w1 ⟨p, rfl, hs, hx1⟩
    have X1 := hd (X0.out.trans hx1)
    have HS := hd hs
    have HB41 := hd (hx1.heap HB4.out)
    clear hx1 hs
    go_wp2_with fail
    refine (HC.out _ _ HS.out).mono ?_
    rintro e w2 ⟨rfl, hx2⟩
    have X2 := hd (X1.out.trans hx2)
    obtain ⟨d0, d1⟩ := blk2 (hx2.heap HB41.out)
    obtain ⟨g0, g1⟩ := blk2f (hx2.heap HB41.out)
    clear hx2
    go_wp2
    exact bodyPost_ret (v := .tuple #[.agg #[.int .i64 x, .int .i64 y], .bool bs]) (by simp [results, Try.results56, go_sem, d0, d1]) rfl (RetX.mk rfl (ext_set2 X2.out (by omega) _ _))
set_option maxRecDepth 100000 in
set_option maxHeartbeats 1600000 in
theorem i_HasMonotone (f : Cnf) (v : Value) (ki : Int) (w : World) (h : Rd_Cnf w v f) (b : Bd_Cnf f) (_ : I64_Cnf f) (_ : I64 ki) :
    Calls Try.prog 54 #[v, .int .i64 ki] w (RetX w (.tuple #[.bool (monoV f ki), .bool (sharedB f ki)])) := by
  obtain ⟨A, c, rfl⟩ := h.form
  have X0 : Hid (Ext w (w.alloc (.cells #[.int .i64 f.n, .slice A f.cs.length c] 28))) := hd (Ext.new _ _)
  have HV := hd (h.ext X0.out)
  have HB := hd b
  clear h b
  obtain ⟨q, hq⟩ : ∃ q, sharedB f ki = q := ⟨_, rfl⟩
  have HQ := hd hq
  cases q
  · clear hq
    go_enter Try.func54, Try.ntmps54
    go_wp2_with fail
    refine (i_sharedSplit_no f _ ki _ HV.out HB.out HQ.out).mono ?_
    rintro e w1 ⟨p, rfl, hx1⟩
    have X1 := hd (X0.out.trans hx1)
    clear hx1
    go_wp2
    go_ret2
    exact RetX.mk (by unfold monoV; rw [HQ.out]; rfl) X1.out
  · obtain ⟨hg, j, rfl, hj, h6, hsv, hwv⟩ := shared_inv hq
    have HE : Hid (blockV f j = blkO (strongV f j) (weakV f j)) := hd (by unfold blockV; rw [hq]; rfl)
    have HC : Hid (∀ w' p, RdSp w' p f j (bothV f j f.n.toNat) → Calls Try.prog 104 #[p] w' (RetX w' (.tuple #[pairV (blockV f j), .bool (blockV f j).isSome]))) := hd fun w' p hp => by rw [HE.out]; exact i_block f j p w' hp hg hj h6 _ _ hsv hwv
    have HM : Hid (monoV f j = !(blockV f j).isSome) := hd (by unfold monoV; rw [hq]; rfl)
    have HG := hd hg
    have HJ := hd hj
    have H6 := hd h6
    obtain ⟨x, y, hxy⟩ := pairV_form (blockV f j)
    rw [hxy] at HC
    clear hg hj hq h6 hsv hwv hxy HE
    generalize (blockV f j).isSome = bs at *
    go_enter Try.func54, Try.ntmps54
    go_wp2_with fail
    refine (i_sharedSplit_yes f _ j _ HV.out HB.out HG.out HJ.out H6.out).mono ?_
    rintro e w1 ⟨p, rfl, hs, hx1⟩
    have X1 := hd (X0.out.trans hx1)
    have HS := hd hs
    clear hx1 hs
    go_wp2_with fail
    refine (HC.out _ _ HS.out).mono ?_
    rintro e w2 ⟨rfl, hx2⟩
    have X2 := hd (X1.out.trans hx2)
    clear hx2
    go_wp2
    go_ret2
    exact RetX.mk (by rw [HM.out, HQ.out]; rfl) (X2.out.alloc _)
end Go.Proofs.Ythiflbcodbigbaa
