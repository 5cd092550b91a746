/-
  FollowsFrom and CounterOf, the reference's side. Condition: at most 2^20 given texts.
-/
import Derived.Test.YtmfgcpeddfbngaaFmN
import Derived.Test.YtmfgcpeddfbngaaFmK
namespace Go.Proofs.Ytmfgcpeddfbngaa
open Go.RowKit Go.Sort
theorem rxv {P : Program} {g : FuncId} {args : Array Value} {w : World} {v v' : Value} (h : Calls P g args w (RetX w v)) (e : Hid (v = v')) : Calls P g args w (RetX w v') := by have := e.out; subst this; exact h
/-- The given formulas as a side. -/
def sideB (xs : List Bs) : List Bs := xs.foldl putL []
theorem sideB_snoc (xs : List Bs) (k : Nat) (h : k < xs.length) : sideB (xs.take (k + 1)) = putL (sideB (xs.take k)) xs[k] := by
  unfold sideB
  rw [List.take_succ_eq_append_getElem h, List.foldl_append]; rfl
theorem foldl_putL (xs : List Bs) : ∀ L : List Bs, Asc L → Asc (xs.foldl putL L) ∧ (∀ z, z ∈ xs.foldl putL L ↔ z ∈ L ∨ z ∈ xs) ∧ (xs.foldl putL L).length ≤ L.length + xs.length := by
  induction xs with
  | nil => intro L h; exact ⟨h, fun z => by simp, by simp⟩
  | cons x r ih =>
    intro L h
    obtain ⟨h1, h2, h3⟩ := ih (putL L x) (putL_asc h)
    refine ⟨h1, fun z => ?_, ?_⟩
    · show z ∈ r.foldl putL (putL L x) ↔ _
      rw [h2, mem_putL, List.mem_cons]
      constructor
      · rintro ((h | h) | h)
        · exact .inr (.inl h)
        · exact .inl h
        · exact .inr (.inr h)
      · rintro (h | h | h)
        · exact .inl (.inr h)
        · exact .inl (.inl h)
        · exact .inr h
    · have := putL_len x L
      show (r.foldl putL (putL L x)).length ≤ _
      simp at h3 ⊢
      omega
theorem sideB_len (xs : List Bs) : (sideB xs).length ≤ xs.length := by have := (foldl_putL xs [] List.Pairwise.nil).2.2; simpa [sideB] using this
theorem sideB_eq (xs : List Bs) : sideB xs = sortB xs := by
  obtain ⟨h1, h2, _⟩ := foldl_putL xs [] List.Pairwise.nil
  obtain ⟨h3, h4⟩ := sortB_spec xs
  refine asc_ext h1 h3 fun z => ?_
  rw [h4]
  show z ∈ xs.foldl putL [] ↔ _
  rw [h2]; simp
theorem s_valX (x : Bs) (hok : okT x = true) (b : Nat) (hb : b < 64) (w : World) : Calls Try.prog 88 #[.string ⟨x.toArray⟩, .int .i64 b] w (RetQ w (.bool (valS b x))) := by
  obtain ⟨hg, hx, hw, hl⟩ := okT_of hok
  have e : (⟨x.toArray⟩ : ByteArray) = strF (fmOf x) := by unfold strF; rw [← hx]
  rw [e]
  exact s_l22Value b hb (fmOf x) hw (by omega) w
theorem qx {P : Program} {g : FuncId} {args : Array Value} {w : World} {v : Value} (h : Calls P g args w (RetQ w v)) : Calls P g args w (RetX w v) := h.mono fun e w' h => by
  obtain ⟨rfl, n, rfl⟩ := h
  exact ⟨rfl, ext_drewN w n⟩
set_option maxHeartbeats 800000 in
theorem s_l25Given (xs : List Bs) (v : Value) (w : World) (h : Rd_StringS w v xs) (hl : xs.length ≤ 1048576) : Calls Try.prog 45 #[v] w (Ret w (.bool (givenB xs))) := by
  obtain ⟨A, c, rfl, h1, h2, ha⟩ := h.form
  clear h
  by_cases h6 : xs.length ≤ 6
  · have HG : Hid (givenB xs = xs.all okT) := hd (by unfold givenB; simp [h6])
    go_enter Try.func45, Try.ntmps45
    go_wp2
    go_loop [3] (fun i => ∃ k : Nat, k ≤ xs.length ∧ i = .int .i64 (k : Int) ∧ Hid (xs.all okT = (xs.drop k).all okT)) (fun i => xs.length - (intOf i).toNat)
    case atStart => exact ⟨0, by omega, rfl, hd rfl⟩
    case round =>
      obtain ⟨k, hk, rfl, HR⟩ := hrel
      by_cases hlt : k < xs.length
      · obtain ⟨a, rfl, hc⟩ := Rd_StringS.at_ ha hlt
        have hdc : xs.drop k = xs[k] :: xs.drop (k + 1) := List.drop_eq_getElem_cons hlt
        rw [hdc] at HR
        clear hdc
        generalize xs[k] = y at *
        obtain ⟨q, hq⟩ : ∃ q, okT y = q := ⟨_, rfl⟩
        have HQ : Hid (isF ⟨y.toArray⟩ = q) := hd hq
        have HK : Hid (xs.all okT = (q && (xs.drop (k + 1)).all okT)) := hd (by rw [HR.out, List.all_cons, hq])
        clear hq HR
        cases q
        · go_wp2_with fail
          refine (rt (s_l22Good _ _) HQ).mono ?_
          rintro e w1 ⟨rfl, rfl⟩
          go_wp2
          go_ret
          exact Ret.mk (by rw [HG.out, HK.out]; rfl)
        · go_wp2_with fail
          refine (rt (s_l22Good _ _) HQ).mono ?_
          rintro e w1 ⟨rfl, rfl⟩
          go_wp2
          go_round
          case rel => exact ⟨k + 1, by omega, by go_num, hd (by rw [HK.out]; rfl)⟩
          case measure => simp [intOf]; omega
      · go_wp2
        go_ret
        exact Ret.mk (by rw [HG.out, HR.out, List.drop_eq_nil_of_le (by omega)]; rfl)
  · have HG : Hid (givenB xs = false) := hd (by unfold givenB; simp [h6])
    go_enter Try.func45, Try.ntmps45
    go_wp2
    go_ret
    exact Ret.mk (by rw [HG.out]; rfl)
set_option maxHeartbeats 1600000 in
theorem s_l25Side (xs : List Bs) (v : Value) (w : World) (h : Rd_StringS w v xs) (hl : xs.length ≤ 6) : Calls Try.prog 48 #[v] w (fun e w' => ∃ u, e = .returned u ∧ OwnS w' w.heap.size u (sideB xs) ∧ Ext w w') := by
  obtain ⟨A, c, rfl, h1, h2, ha⟩ := h.form
  clear h
  have HSN := hd (sideB_snoc xs)
  have HSL : Hid (∀ k, (sideB (xs.take k)).length ≤ 6) := hd fun k => by have := sideB_len (xs.take k); rw [List.length_take] at this; omega
  have HO0 : Hid (OwnS (w.alloc (.cells #[] 9)) w.heap.size (.slice (some ⟨w.heap.size, 0, none⟩) 0 0) (sideB (xs.take 0))) := hd (ownS_at (heap_alloc_new w _) (Nat.le_refl _))
  go_enter Try.func48, Try.ntmps48
  go_wp2
  go_loopw [3, 4] (fun o i wr => ∃ k : Nat, k ≤ xs.length ∧ i = .int .i64 (k : Int) ∧ OwnS wr w.heap.size o (sideB (xs.take k)) ∧ Ext w wr) (fun _ i _ => xs.length - (intOf i).toNat)
  case atStart => exact ⟨0, by omega, rfl, HO0.out, Ext.new _ _⟩
  case round =>
    obtain ⟨k, hk, rfl, ho, hx⟩ := hrel
    have HO := hd ho
    have HX := hd hx
    have hbs := hx.size
    have hls := HSL.out k
    clear ho hx HO0
    by_cases hlt : k < xs.length
    · obtain ⟨a, rfl, hc0⟩ := Rd_StringS.at_ ha hlt
      have hc := HX.out.cell hc0
      have HS := hd (HSN.out k hlt)
      clear hc0
      generalize xs[k] = y at *
      go_wp2_with fail
      refine (s_l22Put _ _ y _ w.heap.size HO.out hbs (by omega)).mono ?_
      rintro e w1 ⟨u, rfl, hu, hx1⟩
      have HU := hd hu
      have HX1 := hd (HX.out.trans hx1)
      clear hu hx1
      go_wp2
      go_roundw
      case rel => exact ⟨k + 1, by omega, by go_num, by rw [HS.out]; exact HU.out, HX1.out⟩
      case measure => simp [intOf]; omega
    · obtain rfl : k = xs.length := by omega
      have HE : Hid (xs.take xs.length = xs) := hd (List.take_of_length_le (Nat.le_refl _))
      go_wp2
      go_ret
      exact ⟨_, rfl, by have := HO.out; rw [HE.out] at this; exact this, HX.out⟩
set_option maxHeartbeats 3200000 in
theorem s_l23Holds (L : List Bs) (s : Bs) (lv rv : Value) (b : Nat) (hb : b < 64) (w : World) (h : Rd_StringS w lv L) (hl : L.length ≤ 12) (hok : Hid (∀ x ∈ L, okT x = true)) (h' : Rd_StringS w rv [s]) (hs : okT s = true) :
    Calls Try.prog 69 #[.agg #[lv, rv], .int .i64 b] w (RetX w (.bool (holdsB b L s))) := by
  have HS := hd hs
  obtain ⟨A, c, rfl, h1, h2, HL⟩ := h.form
  obtain ⟨A', c', rfl, h3, h4, HR⟩ := h'.form
  clear h h' hs
  have hl1 : [s].length = 1 := rfl
  rw [hl1] at HR h3 ⊢
  clear hl1
  have X0 : Hid (Ext w (w.alloc (.cells #[.slice A L.length c, .slice A' 1 c'] 73))) := hd (Ext.new _ _)
  have HB := hd (heap_alloc_new w (.cells #[.slice A L.length c, .slice A' 1 c'] 73))
  have HD : Hid (holdsB b L s = (L.any (fun x => !valS b x) || valS b s)) := hd rfl
  go_enter Try.func69, Try.ntmps69
  go_wp2
  go_loopw [5] (fun i wr => ∃ k : Nat, k ≤ L.length ∧ i = .int .i64 (k : Int) ∧ Hid (L.any (fun x => !valS b x) = (L.drop k).any (fun x => !valS b x)) ∧ Ext (w.alloc (.cells #[.slice A L.length c, .slice A' 1 c'] 73)) wr) (fun i _ => L.length - (intOf i).toNat)
  case atStart => exact ⟨0, by omega, rfl, hd rfl, Ext.refl _⟩
  case round =>
    obtain ⟨k, hk, rfl, HK, hx⟩ := hrel
    have HX := hd hx
    obtain ⟨k0, k1⟩ := blk2S (hx.heap HB.out)
    clear hx
    by_cases hlt : k < L.length
    · obtain ⟨a, rfl, hc0⟩ := Rd_StringS.at_ HL hlt
      have hc := (X0.out.trans HX.out).cell hc0
      clear hc0
      have hdc : L.drop k = L[k] :: L.drop (k + 1) := List.drop_eq_getElem_cons hlt
      rw [hdc] at HK
      clear hdc
      have HM := hd (hok.out _ (List.getElem_mem hlt))
      generalize L[k] = y at *
      obtain ⟨q, hq⟩ : ∃ q, valS b y = q := ⟨_, rfl⟩
      have HQ := hd hq
      have HST : Hid (L.any (fun x => !valS b x) = (!q || (L.drop (k + 1)).any (fun x => !valS b x))) := hd (by rw [HK.out, List.any_cons, hq])
      clear hq HK
      cases q
      · go_wp2_with fail
        refine (rtx (qx (s_valX y HM.out b hb _)) HQ).mono ?_
        rintro e w1 ⟨rfl, hx1⟩
        go_wp2
        go_ret
        exact RetX.mk (by rw [HD.out, HST.out]; rfl) (X0.out.trans (HX.out.trans hx1))
      · go_wp2_with fail
        refine (rtx (qx (s_valX y HM.out b hb _)) HQ).mono ?_
        rintro e w1 ⟨rfl, hx1⟩
        go_wp2
        go_roundw
        case rel => exact ⟨k + 1, by omega, by go_num, hd (by rw [HST.out]; rfl), HX.out.trans hx1⟩
        case measure => simp [intOf]; omega
    · have HE : Hid (holdsB b L s = valS b s) := hd (by rw [HD.out, HK.out, List.drop_eq_nil_of_le (by omega)]; rfl)
      clear HK HD
      obtain ⟨wo, hwo⟩ : ∃ wo : World, wo = wr := ⟨_, rfl⟩
      subst hwo
      go_wp2
      go_loopw [6] (fun i wr => ∃ k : Nat, k ≤ 1 ∧ i = .int .i64 (k : Int) ∧ (k = 1 → Hid (valS b s = false)) ∧ Ext (w.alloc (.cells #[.slice A L.length c, .slice A' 1 c'] 73)) wr) (fun i _ => 1 - (intOf i).toNat)
      case atStart => exact ⟨0, by omega, rfl, (fun h => by cases h), HX.out⟩
      case round =>
        obtain ⟨m, hm, rfl, HM, hx⟩ := hrel
        have HX := hd hx
        clear k0 k1
        obtain ⟨k0, k1⟩ := blk2S (hx.heap HB.out)
        rcases (by omega : m = 0 ∨ m = 1) with rfl | rfl
        · obtain ⟨a, rfl, hc0⟩ := Rd_StringS.at_ HR (k := 0) (by simp)
          have hc := (X0.out.trans hx).cell hc0
          clear hc0 hx HM
          rw [List.getElem_cons_zero, Addr.add_zero'] at hc
          obtain ⟨q, hq⟩ : ∃ q, valS b s = q := ⟨_, rfl⟩
          have HQ := hd hq
          clear hq
          cases q
          · go_wp2_with fail
            refine (rtx (qx (s_valX s HS.out b hb _)) HQ).mono ?_
            rintro e w1 ⟨rfl, hx1⟩
            go_wp2
            go_roundw
            case rel => exact ⟨1, by omega, rfl, fun _ => HQ, HX.out.trans hx1⟩
            case measure => simp [intOf]
          · go_wp2_with fail
            refine (rtx (qx (s_valX s HS.out b hb _)) HQ).mono ?_
            rintro e w1 ⟨rfl, hx1⟩
            go_wp2
            go_ret
            exact RetX.mk (by rw [HE.out, HQ.out]; rfl) (X0.out.trans (HX.out.trans hx1))
        · have HF := HM rfl
          clear HM hx
          go_wp2
          go_ret
          exact RetX.mk (by rw [HE.out, HF.out]; rfl) (X0.out.trans HX.out)
set_option maxHeartbeats 1600000 in
theorem s_l23Counter (L : List Bs) (s : Bs) (lv rv : Value) (w : World) (h : Rd_StringS w lv L) (hl : L.length ≤ 12) (hok : Hid (∀ x ∈ L, okT x = true)) (h' : Rd_StringS w rv [s]) (hs : okT s = true) :
    Calls Try.prog 46 #[.agg #[lv, rv]] w (RetX w (.int .i64 (cntV L s))) := by
  have HLL := hd h
  have HRR := hd h'
  have HS := hd hs
  obtain ⟨A, c, rfl, -⟩ := h.form
  obtain ⟨A', c', rfl, -⟩ := h'.form
  clear h h' hs
  have X0 : Hid (Ext w (w.alloc (.cells #[.slice A L.length c, .slice A' [s].length c'] 73))) := hd (Ext.new _ _)
  have HB := hd (heap_alloc_new w (.cells #[.slice A L.length c, .slice A' [s].length c'] 73))
  have HD : Hid (cntV L s = firstF (fun b => holdsB b L s) 64 0) := hd rfl
  go_enter Try.func46, Try.ntmps46
  go_wp2
  go_loopw [3] (fun i wr => ∃ k : Nat, k ≤ 64 ∧ i = .int .i64 (k : Int) ∧ Hid (cntV L s = firstF (fun b => holdsB b L s) (64 - k) k) ∧ Ext (w.alloc (.cells #[.slice A L.length c, .slice A' [s].length c'] 73)) wr) (fun i _ => 64 - (intOf i).toNat)
  case atStart => exact ⟨0, by omega, rfl, HD, Ext.refl _⟩
  case round =>
    clear HD
    obtain ⟨k, hk, rfl, HR, hx⟩ := hrel
    have HX := hd hx
    obtain ⟨k0, k1⟩ := blk2S (hx.heap HB.out)
    clear hx
    by_cases hlt : k < 64
    · obtain ⟨q, hq⟩ : ∃ q, holdsB k L s = q := ⟨_, rfl⟩
      have HQ := hd hq
      have HST : Hid (firstF (fun b => holdsB b L s) (64 - k) k = if q then firstF (fun b => holdsB b L s) (64 - (k + 1)) (k + 1) else (k : Int)) := hd (by
        rw [show 64 - k = (64 - (k + 1)) + 1 from by omega, firstF, hq])
      have HL2 := hd (HLL.out.ext (X0.out.trans HX.out))
      have HR2 := hd (HRR.out.ext (X0.out.trans HX.out))
      clear hq
      cases q
      · go_wp2_with fail
        refine (rtx (s_l23Holds L s _ _ k hlt _ HL2.out hl hok HR2.out HS.out) HQ).mono ?_
        rintro e w1 ⟨rfl, hx1⟩
        go_wp2
        go_ret
        exact RetX.mk (by rw [HR.out, HST.out]; rfl) (X0.out.trans (HX.out.trans hx1))
      · go_wp2_with fail
        refine (rtx (s_l23Holds L s _ _ k hlt _ HL2.out hl hok HR2.out HS.out) HQ).mono ?_
        rintro e w1 ⟨rfl, hx1⟩
        go_wp2
        go_roundw
        case rel => exact ⟨k + 1, by omega, by go_num, hd (by rw [HR.out, HST.out]; rfl), HX.out.trans hx1⟩
        case measure => simp [intOf]; omega
    · obtain rfl : k = 64 := by omega
      have HE : Hid (cntV L s = -1) := hd (by rw [HR.out]; rfl)
      go_wp2
      go_ret
      exact RetX.mk (by rw [HE.out]; rfl) (X0.out.trans HX.out)
set_option maxHeartbeats 1600000 in
theorem s_l25Of (L : List Bs) (v : Value) (s : ByteArray) (w : World) (h : Rd_StringS w v L) (hl : L.length ≤ 1048576) : Calls Try.prog 47 #[v, .string s] w (RetSq w L s.data.toList) := by
  have HR := hd h
  clear h
  have X0 : Hid (Ext w (w.alloc (.cells #[.slice none 0 0, .slice none 0 0] 73))) := hd (Ext.new _ _)
  have HB := hd (heap_alloc_new w (.cells #[.slice none 0 0, .slice none 0 0] 73))
  obtain ⟨wb, hwb⟩ : ∃ wb : World, wb = w.alloc (.cells #[.slice none 0 0, .slice none 0 0] 73) := ⟨_, rfl⟩
  have hsz : wb.heap.size = w.heap.size + 1 := by rw [hwb]; simp
  have HO0 : Hid (OwnS ((w.alloc (.cells #[.slice none 0 0, .slice none 0 0] 73)).alloc (.cells #[] 9)) (w.heap.size + 1) (.slice (some ⟨w.heap.size + 1, 0, none⟩) 0 0) []) := hd (by
    rw [← hwb, ← hsz]; exact ownS_at (heap_alloc_new wb _) (Nat.le_refl _))
  have XX : Hid (Ext w ((w.alloc (.cells #[.slice none 0 0, .slice none 0 0] 73)).alloc (.cells #[] 9))) := hd (X0.out.alloc _)
  have HB1 := hd (blkoldS (o' := .cells #[] 9) HB.out)
  have HR1 := hd (HR.out.ext XX.out)
  clear hwb hsz wb HR
  go_enter Try.func47, Try.ntmps47
  go_wp2_with (
    at_builtin
    refine appSS _ HO0.out HR1.out rfl _ _ rfl (by rfl) (by rfl) (by simp; omega) (by simp) ?_
    intro u w1 hu hg hb
    have X1 := hd (ext_appS XX.out hg (fun g hg => by have := ownS_ge HO0.out g hg; omega))
    have B1 : Hid (w1.heap[w.heap.size]? = some (.cells #[.slice none 0 0, .slice none 0 0] 73 (0, 0))) := hd ((hg.block _ (Array.getElem?_eq_some_iff.1 HB1.out).1 (fun e => by have := ownS_ge HO0.out _ e.symm; omega)).trans HB1.out)
    have hu' : Rd_StringS w1 u L := own_rd hu
    have HU : Hid (OwnS w1 (w.heap.size + 1) u L) := hd hu
    clear hg hb hu
    obtain ⟨A, c, rfl, -⟩ := hu'.form
    have B2 := hd (blkoldS (o' := .cells #[.string s] 9) B1.out)
    obtain ⟨k0, k1⟩ := blk2S B2.out
    obtain ⟨f0, f1⟩ := blk2fS B2.out
    have k4 := blkltS B2.out
    have X2 := hd (X1.out.alloc (.cells #[.string s] 9))
    have HLT : Hid (w.heap.size < w1.heap.size) := hd (by have := blkltS B1.out; exact this)
    have HC := hd (blk2setS (u := .slice A L.length c) (v := .slice (some ⟨w1.heap.size, 0, none⟩) 1 1) B2.out)
    have OB : Hid (∀ g, (Value.slice A L.length c).ownBlock = some g → w.heap.size + 1 ≤ g) := hd (fun g hg => (own_blocks HU.out g hg).1)
    clear hu'
    have T4 := hd ((((Touch.refl w.heap.size (w.heap.size + 1) (w1.alloc (.cells #[.string s] 9))).setCell (p := ⟨w.heap.size, 0, none⟩) (Nat.le_refl _) (Nat.lt_succ_self _) (.slice A L.length c)).setCell (p := ⟨w.heap.size, 1, none⟩) (Nat.le_refl _) (Nat.lt_succ_self _) (.slice (some ⟨w1.heap.size, 0, none⟩) 1 1)))
    have X4 := hd (Below.setCell (p := ⟨w.heap.size, 1, none⟩) (Below.setCell (p := ⟨w.heap.size, 0, none⟩) X2.out (Nat.le_refl _) (.slice A L.length c)) (Nat.le_refl _) (.slice (some ⟨w1.heap.size, 0, none⟩) 1 1)))
  obtain ⟨p0, p1⟩ := blk2S HC.out
  refine bodyPost_ret (v := .agg #[.slice A L.length c, .slice (some ⟨w1.heap.size, 0, none⟩) 1 1]) (by simp [results, Try.results47, go_sem, p0, p1]) rfl ⟨_, _, rfl, ?_, ?_, X4.out⟩
  · refine own_rebase (own_touch (own_ext HU.out (Ext.new _ _)) T4.out fun g hg => .inr ?_) (by simp)
    exact OB.out g hg
  · refine own_touch ?_ T4.out fun g hg => .inr ?_
    · have := own_lit w1 w.heap.size 9 1 #[.string s] 1 (Nat.le_of_lt HLT.out) (by unfold maxLen; omega) rfl
      obtain ⟨⟨l⟩⟩ := s
      exact this
    · have := HLT.out
      cases hg
      exact this
set_option maxHeartbeats 1600000 in
theorem s_FollowsFrom (xs : List Bs) (gv : Value) (s : ByteArray) (w : World) (h : Rd_StringS w gv xs) (hl : Bd_StringS xs) (_ : I64_StringS xs) (_ : s.size ≤ 1048576) : Calls Try.prog 24 #[gv, .string s] w (RetX w (.tuple #[.bool (followV xs s), .bool (askB xs s)])) := by
  unfold Bd_StringS at hl
  have HG := hd h
  clear h
  obtain ⟨q1, hq1⟩ : ∃ q1, givenB xs = q1 := ⟨_, rfl⟩
  obtain ⟨q2, hq2⟩ : ∃ q2, isF s = q2 := ⟨_, rfl⟩
  have HQ1 := hd hq1
  have HQ2 := hd hq2
  have HQ : Hid (askB xs s = (q1 && q2)) := hd (by unfold askB; rw [hq1, hq2])
  have HF : Hid (followV xs s = if q1 && q2 then decide (cntV xs s.data.toList < 0) else false) := hd (by unfold followV; rw [HQ.out])
  clear hq1 hq2
  cases q1
  · go_enter Try.func24, Try.ntmps24
    go_wp2_with fail
    refine (rt (s_l25Given xs gv _ HG.out hl) HQ1).mono ?_
    rintro e w1 ⟨rfl, rfl⟩
    go_wp2
    go_ret2
    exact RetX.mk (by rw [HF.out, HQ.out]; rfl) (Ext.refl _)
  · cases q2
    · go_enter Try.func24, Try.ntmps24
      go_wp2_with fail
      refine (rt (s_l25Given xs gv _ HG.out hl) HQ1).mono ?_
      rintro e w1 ⟨rfl, rfl⟩
      go_wp2_with fail
      refine (rt (s_l22Good s _) HQ2).mono ?_
      rintro e w1 ⟨rfl, rfl⟩
      go_wp2
      go_ret2
      exact RetX.mk (by rw [HF.out, HQ.out]; rfl) (Ext.refl _)
    · obtain ⟨i1, i2, i3, i4⟩ := askB_inv (xs := xs) (s := s) HQ.out
      have hl6 : xs.length ≤ 6 := by
        have := HQ1.out
        unfold givenB at this
        rw [Bool.and_eq_true] at this
        simpa using this.1
      have I3 : Hid (∀ x ∈ sideB xs, okT x = true) := hd (by rw [sideB_eq]; exact i3)
      have I4 := hd i4
      have i1' : (sideB xs).length ≤ 12 := by rw [sideB_eq]; exact i1
      have HCG : Hid (Value.int .i64 (cntV (sideB xs) s.data.toList) = .int .i64 (cntV xs s.data.toList)) := hd (congrArg _ (cntV_congr _ (by rw [sideB_eq]; exact (sortB_spec xs).2)))
      have HF2 : Hid (followV xs s = decide (cntV xs s.data.toList < 0)) := hd (by rw [HF.out]; rfl)
      clear i1 i2 i3 i4 HF
      go_enter Try.func24, Try.ntmps24
      go_wp2_with fail
      refine (rt (s_l25Given xs gv _ HG.out hl) HQ1).mono ?_
      rintro e w1 ⟨rfl, rfl⟩
      go_wp2_with fail
      refine (rt (s_l22Good s _) HQ2).mono ?_
      rintro e w1 ⟨rfl, rfl⟩
      go_wp2_with fail
      refine (s_l25Side xs gv _ HG.out hl6).mono ?_
      rintro e w1 ⟨u, rfl, hu, hx1⟩
      have HU : Hid (Rd_StringS w1 u (sideB xs)) := hd (own_rd hu)
      have X1 := hd hx1
      clear hu hx1
      go_wp2_with fail
      refine (s_l25Of (sideB xs) u s _ HU.out (by omega)).mono ?_
      rintro e w2 ⟨lv, rv, rfl, hlv, hrv, hx2⟩
      have HLV : Hid (Rd_StringS w2 lv (sideB xs)) := hd (own_rd hlv)
      have HRV : Hid (Rd_StringS w2 rv [s.data.toList]) := hd (own_rd hrv)
      have X2 := hd (X1.out.trans hx2)
      clear hlv hrv hx2
      go_wp2_with fail
      refine (rxv (s_l23Counter (sideB xs) s.data.toList lv rv _ HLV.out i1' I3 HRV.out I4.out) HCG).mono ?_
      rintro e w3 ⟨rfl, hx3⟩
      go_wp2
      go_ret2
      exact RetX.mk (by rw [HF2.out, HQ.out]; rfl) (X2.out.trans hx3)
set_option maxHeartbeats 1600000 in
theorem s_CounterOf (xs : List Bs) (gv : Value) (s : ByteArray) (w : World) (h : Rd_StringS w gv xs) (hl : Bd_StringS xs) (_ : I64_StringS xs) (_ : s.size ≤ 1048576) : Calls Try.prog 27 #[gv, .string s] w (RetX w (.tuple #[.int .i64 (counterN xs s), .bool (counterB xs s)])) := by
  unfold Bd_StringS at hl
  have HG := hd h
  clear h
  obtain ⟨q1, hq1⟩ : ∃ q1, givenB xs = q1 := ⟨_, rfl⟩
  obtain ⟨q2, hq2⟩ : ∃ q2, isF s = q2 := ⟨_, rfl⟩
  have HQ1 := hd hq1
  have HQ2 := hd hq2
  have HQ : Hid (askB xs s = (q1 && q2)) := hd (by unfold askB; rw [hq1, hq2])
  clear hq1 hq2
  cases q1
  · have HF : Hid (counterB xs s = false) := hd (by unfold counterB; rw [HQ.out]; rfl)
    have HN : Hid (counterN xs s = 0) := hd (by unfold counterN; rw [HF.out]; rfl)
    go_enter Try.func27, Try.ntmps27
    go_wp2_with fail
    refine (rt (s_l25Given xs gv _ HG.out hl) HQ1).mono ?_
    rintro e w1 ⟨rfl, rfl⟩
    go_wp2
    go_ret2
    exact RetX.mk (by rw [HF.out, HN.out]; rfl) (Ext.refl _)
  · cases q2
    · have HF : Hid (counterB xs s = false) := hd (by unfold counterB; rw [HQ.out]; rfl)
      have HN : Hid (counterN xs s = 0) := hd (by unfold counterN; rw [HF.out]; rfl)
      go_enter Try.func27, Try.ntmps27
      go_wp2_with fail
      refine (rt (s_l25Given xs gv _ HG.out hl) HQ1).mono ?_
      rintro e w1 ⟨rfl, rfl⟩
      go_wp2_with fail
      refine (rt (s_l22Good s _) HQ2).mono ?_
      rintro e w1 ⟨rfl, rfl⟩
      go_wp2
      go_ret2
      exact RetX.mk (by rw [HF.out, HN.out]; rfl) (Ext.refl _)
    · obtain ⟨i1, i2, i3, i4⟩ := askB_inv (xs := xs) (s := s) HQ.out
      have hl6 : xs.length ≤ 6 := by
        have := HQ1.out
        unfold givenB at this
        rw [Bool.and_eq_true] at this
        simpa using this.1
      have I3 : Hid (∀ x ∈ sideB xs, okT x = true) := hd (by rw [sideB_eq]; exact i3)
      have I4 := hd i4
      have i1' : (sideB xs).length ≤ 12 := by rw [sideB_eq]; exact i1
      have HCG : Hid (Value.int .i64 (cntV (sideB xs) s.data.toList) = .int .i64 (cntV xs s.data.toList)) := hd (congrArg _ (cntV_congr _ (by rw [sideB_eq]; exact (sortB_spec xs).2)))
      have HF : Hid (counterB xs s = decide (0 ≤ cntV xs s.data.toList)) := hd (by unfold counterB; rw [HQ.out]; rfl)
      have HN : Hid (counterN xs s = if decide (0 ≤ cntV xs s.data.toList) then cntV xs s.data.toList else 0) := hd (by unfold counterN; rw [HF.out])
      clear i1 i2 i3 i4
      generalize cntV xs s.data.toList = z at *
      by_cases hz : z < 0
      all_goals
        go_enter Try.func27, Try.ntmps27
        go_wp2_with fail
        refine (rt (s_l25Given xs gv _ HG.out hl) HQ1).mono ?_
        rintro e w1 ⟨rfl, rfl⟩
        go_wp2_with fail
        refine (rt (s_l22Good s _) HQ2).mono ?_
        rintro e w1 ⟨rfl, rfl⟩
        go_wp2_with fail
        refine (s_l25Side xs gv _ HG.out hl6).mono ?_
        rintro e w1 ⟨u, rfl, hu, hx1⟩
        have HU : Hid (Rd_StringS w1 u (sideB xs)) := hd (own_rd hu)
        have X1 := hd hx1
        clear hu hx1
        go_wp2_with fail
        refine (s_l25Of (sideB xs) u s _ HU.out (by omega)).mono ?_
        rintro e w2 ⟨lv, rv, rfl, hlv, hrv, hx2⟩
        have HLV : Hid (Rd_StringS w2 lv (sideB xs)) := hd (own_rd hlv)
        have HRV : Hid (Rd_StringS w2 rv [s.data.toList]) := hd (own_rd hrv)
        have X2 := hd (X1.out.trans hx2)
        clear hlv hrv hx2
        go_wp2_with fail
        refine (rxv (s_l23Counter (sideB xs) s.data.toList lv rv _ HLV.out i1' I3 HRV.out I4.out) HCG).mono ?_
        rintro e w3 ⟨rfl, hx3⟩
        go_wp2
        go_ret2
        exact RetX.mk (by rw [HF.out, HN.out]; first | (rw [decide_eq_false (show ¬ 0 ≤ z by omega)]; rfl) | (rw [decide_eq_true (show 0 ≤ z by omega)]; rfl)) (X2.out.trans hx3)
end Go.Proofs.Ytmfgcpeddfbngaa
