/-
  DropName, both sides. Conditions: sizes up to 2^20.
-/
import Derived.Test.YtbeiblpikdcoeaaDel
import Derived.Test.YtbeiblpikdcoeaaRecM
namespace Go.Proofs.Ytbeiblpikdcoeaa
open Go.RowKit
def dropL (rs : List Rec) (name : ByteArray) : List Rec := rs.filter fun r => !(r.name.toList == name.toList)
def dropB (rs : List Rec) (name : ByteArray) : Bool := bookB rs && !decide ((dropL rs name).length = rs.length)
def dropV (rs : List Rec) (name : ByteArray) : List Rec := if dropB rs name then dropL rs name else []
theorem dropL_len (rs : List Rec) (name : ByteArray) : (dropL rs name).length ≤ rs.length := List.length_filter_le _ _
theorem drop_name {rs : List Rec} {name : ByteArray} (hb : bookB rs = true) (hn : nameB name = false) : dropL rs name = rs := by
  unfold dropL
  rw [List.filter_eq_self]
  intro r hr
  rw [book_name hb hn r hr]; rfl
theorem drop_yes {r : Rec} {name : ByteArray} (rs : List Rec) (h : (r.name.toList == name.toList) = true) : dropL (rs ++ [r]) name = dropL rs name := by
  unfold dropL
  rw [List.filter_append]
  simp [h]
theorem drop_no {r : Rec} {name : ByteArray} (rs : List Rec) (h : (r.name.toList == name.toList) = false) : dropL (rs ++ [r]) name = dropL rs name ++ [r] := by
  unfold dropL
  rw [List.filter_append]
  simp [h]
theorem dropV_bd {rs : List Rec} (name : ByteArray) (b : Bd_RecordS rs) : Bd_RecordS (dropV rs name) := by
  unfold dropV
  split
  · exact ⟨Nat.le_trans (dropL_len rs name) b.1, fun r hr => b.2 r (List.mem_filter.1 hr).1⟩
  · exact ⟨by simp, fun r hr => by cases hr⟩
theorem sm_drop {rs : List Rec} (name : ByteArray) (h : Sm_RecordS rs) : Sm_RecordS (dropL rs name) := fun r hr => h r (List.mem_filter.1 hr).1
def RetR2 (w : World) (rs : List Rec) (b : Bool) : Ending → World → Prop := fun e w' => ∃ u, e = .returned (.tuple #[u, .bool b]) ∧ Own_RecordS w' w.heap.size w'.heap.size u rs ∧ Ext w w'
theorem blk1d {w : World} {b : Nat} {x : Value} {e : TypeId} (h : w.heap[b]? = some (.cells #[x] e)) : w.cell? ⟨b, 0, none⟩ = some x := by simp [World.cell?, h]
theorem sm_nil : Sm_RecordS [] := fun r hr => by cases hr
set_option maxRecDepth 100000 in
set_option maxHeartbeats 3200000 in
theorem s_DropName (rs : List Rec) (v : Value) (name : ByteArray) (w : World) (h : Rd_RecordS w v rs) (b : Bd_RecordS rs) (_ : I64_RecordS rs) (hn : name.size ≤ 1048576) :
    Calls Try.prog 42 #[v, .string name] w (RetR2 w (dropV rs name) (dropB rs name)) := by
  have HH := hd h
  have hl := b.1
  have HSM := hd (sm_drop name h.2)
  clear b
  obtain ⟨A, c, rfl, h1, h2, ha⟩ := h.form
  clear h
  have X0 : Hid (Ext w (w.alloc (.cells #[] 106))) := hd (Ext.new _ _)
  have O0 : Hid (Own (w.alloc (.cells #[] 106)) w.heap.size 106 4 (.slice (some ⟨w.heap.size, 0, none⟩) 0 0) (dropL (rs.take 0) name).length (recCells (dropL (rs.take 0) name))) := hd (own_lit w w.heap.size 106 4 #[] 0 (Nat.le_refl _) (Nat.zero_le _) rfl)
  obtain ⟨q, hq⟩ : ∃ q, (bookB rs && nameB name) = q := ⟨_, rfl⟩
  have HQ := hd hq
  clear hq
  cases q
  · have HB : Hid (dropB rs name = false) := hd (by
      unfold dropB
      cases hb : bookB rs with
      | false => rfl
      | true =>
        have hnn : nameB name = false := by have := HQ.out; rw [hb] at this; simpa using this
        rw [drop_name hb hnn]; simp)
    have HV : Hid (dropV rs name = []) := hd (by unfold dropV; rw [HB.out]; rfl)
    go_enter Try.func42, Try.ntmps42
    go_wp2_with (first | (go_at_call 83; (with_reducible refine (rtx (s_l31Takes rs _ name _ (HH.out.ext X0.out) hl (Nat.le_trans hn (by omega))) HQ).mono ?_); rintro e w1 ⟨rfl, hx⟩))
    go_ret2
    exact ⟨_, by rw [HB.out]; rfl, by rw [HV.out]; exact ⟨own_ext O0.out hx, own_lt (own_ext O0.out hx), sm_nil⟩, X0.out.trans hx⟩
  · have hbk : bookB rs = true := by have := HQ.out; rw [Bool.and_eq_true] at this; exact this.1
    have HB : Hid (dropB rs name = !decide ((dropL rs name).length = rs.length)) := hd (by unfold dropB; rw [hbk]; rfl)
    have HVV : Hid (dropV rs name = if dropB rs name then dropL rs name else []) := hd rfl
    go_enter Try.func42, Try.ntmps42
    go_wp2_with (first | (go_at_call 83; (with_reducible refine (rtx (s_l31Takes rs _ name _ (HH.out.ext X0.out) hl (Nat.le_trans hn (by omega))) HQ).mono ?_); rintro e w1 ⟨rfl, hx⟩))
    have HX1 := hd (X0.out.trans hx)
    have HO1 := hd (own_ext O0.out hx)
    clear hx
    go_loopw [7, 6] (fun i o wr => ∃ k : Nat, k ≤ rs.length ∧ i = .int .i64 k ∧ Own wr w.heap.size 106 4 o (dropL (rs.take k) name).length (recCells (dropL (rs.take k) name)) ∧ Ext w wr) (fun i _ _ => rs.length - (intOf i).toNat)
    case atStart => exact ⟨0, by omega, rfl, HO1.out, HX1.out⟩
    case round =>
      clear O0 X0 HO1 HX1
      obtain ⟨k, hk, rfl, ho, hx⟩ := hrel
      have HX := hd hx
      have HO := hd ho
      clear hx ho
      by_cases hlt : k < rs.length
      · obtain ⟨a, rfl, d0, d1, d2, d3⟩ := RdRec.at_ ha hlt
        have c0 := HX.out.cell d0
        have c1 := HX.out.cell d1
        have c2 := HX.out.cell d2
        have c3 := HX.out.cell d3
        have HT : Hid (rs.take (k + 1) = rs.take k ++ [rs[k]]) := hd (List.take_succ_eq_append_getElem hlt)
        have hdl := dropL_len (rs.take k) name
        have htl : (rs.take k).length ≤ k := by simp; omega
        clear d0 d1 d2 d3
        generalize rs[k] = r at *
        obtain ⟨nm, x, y, z⟩ := r
        dsimp only at c0 c1 c2 c3
        obtain ⟨t, ht⟩ : ∃ t, (nm.toList == name.toList) = t := ⟨_, rfl⟩
        have HTT := hd ht
        cases t
        · have HS : Hid (dropL (rs.take (k + 1)) name = dropL (rs.take k) name ++ [⟨nm, x, y, z⟩]) := hd (by rw [HT.out]; exact drop_no _ HTT.out)
          go_wp2_with (at_builtin; refine appR wr ⟨nm, x, y, z⟩ HO.out rfl _ _ rfl (by rfl) (by rfl) rfl (by omega) HX.out.size ?_; intro v' w1 ho1 hg1 _)
          go_roundw
          case rel => exact ⟨k + 1, by omega, by go_num, by rw [HS.out]; exact ho1, ext_app HX.out hg1 (fun g hg => (own_blocks HO.out g hg).1)⟩
          case measure => simp [intOf]; omega
        · have HS : Hid (dropL (rs.take (k + 1)) name = dropL (rs.take k) name) := hd (by rw [HT.out]; exact drop_yes _ HTT.out)
          go_wp2
          go_roundw
          case rel => exact ⟨k + 1, by omega, by go_num, by rw [HS.out]; exact HO.out, HX.out⟩
          case measure => simp [intOf]; omega
      · have hkl : rs.take k = rs := List.take_of_length_le (by omega)
        rw [hkl] at HO
        obtain rfl : k = rs.length := by omega
        clear hkl
        obtain ⟨A3, c3, rfl, -⟩ := RdRec.form (own_rd HO.out)
        have hdl := dropL_len rs name
        by_cases he : (dropL rs name).length = rs.length
        · have HB' : Hid (dropB rs name = false) := hd (by rw [HB.out, decide_eq_true he]; rfl)
          have HV : Hid (dropV rs name = []) := hd (by rw [HVV.out, HB'.out]; rfl)
          rw [he]
          go_wp2
          go_ret2
          exact ⟨_, by rw [HB'.out]; rfl, by rw [HV.out]; exact ⟨own_lit wr w.heap.size 106 4 #[] 0 HX.out.size (Nat.zero_le _) rfl, fun g hg => (by obtain rfl : wr.heap.size = g := Option.some.inj hg; simp), sm_nil⟩, HX.out.alloc _⟩
        · have HB' : Hid (dropB rs name = true) := hd (by rw [HB.out, decide_eq_false he]; rfl)
          have HV : Hid (dropV rs name = dropL rs name) := hd (by rw [HVV.out, HB'.out]; rfl)
          have hei : ¬ ((dropL rs name).length : Int) = (rs.length : Int) := by omega
          go_wp2
          go_ret2
          exact ⟨_, by rw [HB'.out]; rfl, by rw [HV.out]; exact ⟨HO.out, own_lt HO.out, HSM.out⟩, HX.out⟩
set_option maxHeartbeats 800000 in
theorem c_DropName1 (r : Rec) (name : ByteArray) (b4 : Nat) (w : World) (h4 : w.cell? ⟨b4, 0, none⟩ = some (.string name)) :
    Calls Try.prog 86 #[aggR r, .pointer (some ⟨b4, 0, none⟩)] w (RetX w (.bool (r.name.toList == name.toList))) := by
  obtain ⟨nm, x, y, z⟩ := r
  unfold aggR
  dsimp only
  have q4 := (Ext.new w (.cells #[.string nm, .int .i64 x, .int .i64 y, .int .i64 z] 106)).cell h4
  obtain ⟨t, ht⟩ : ∃ t, (nm.toList == name.toList) = t := ⟨_, rfl⟩
  rw [ht]
  go_enter Try.func86, Try.ntmps86
  go_wp2
  go_ret
  exact RetX.mk rfl (Ext.new _ _)
theorem enters_DropName1 : Enters 86 := fun args w => by kernel_rfl
set_option maxRecDepth 100000 in
set_option maxHeartbeats 3200000 in
theorem i_DropName (rs : List Rec) (v : Value) (name : ByteArray) (w : World) (h : Rd_RecordS w v rs) (b : Bd_RecordS rs) (_ : I64_RecordS rs) (_ : name.size ≤ 1048576) :
    Calls Try.prog 43 #[v, .string name] w (RetR2 w (dropV rs name) (dropB rs name)) := by
  have HSM := hd (sm_drop name h.2)
  have hl := b.1
  clear b
  obtain ⟨A, c, rfl, h1, h2, -⟩ := h.form
  have HH := hd (h.ext (Ext.new w (.cells #[.string name] 9)))
  have X0 : Hid (Ext w (w.alloc (.cells #[.string name] 9))) := hd (Ext.new _ _)
  have HC := hd (blk1d (blk_new (w := w) (.cells #[.string name] 9) rfl))
  clear h
  have HVV : Hid (dropV rs name = if dropB rs name then dropL rs name else []) := hd rfl
  have hdl := dropL_len rs name
  obtain ⟨q, hq⟩ : ∃ q, bookB rs = q := ⟨_, rfl⟩
  have HQ := hd hq
  clear hq
  go_enter Try.func43, Try.ntmps43
  cases q
  · have HB : Hid (dropB rs name = false) := hd (by unfold dropB; rw [HQ.out]; rfl)
    have HV : Hid (dropV rs name = []) := hd (by rw [HVV.out, HB.out]; rfl)
    go_wp2_with (first | (go_at_call 79; (with_reducible refine (rtx (i_IsBook rs _ _ HH.out hl) HQ).mono ?_); rintro e w1 ⟨rfl, hx⟩))
    go_ret2
    exact ⟨_, by rw [HB.out]; rfl, by rw [HV.out]; exact ⟨own_nil _ _ _ _, fun g hg => (by cases hg), sm_nil⟩, X0.out.trans hx⟩
  · have HB : Hid (dropB rs name = !decide ((dropL rs name).length = rs.length)) := hd (by unfold dropB; rw [HQ.out]; rfl)
    go_wp2_with fail
    refine (rtx (i_IsBook rs _ _ HH.out hl) HQ).mono ?_
    rintro e w1 ⟨rfl, hx⟩
    have X1 := hd (X0.out.trans hx)
    have HH1 := hd (HH.out.1.ext hx)
    have HC1 := hd (hx.cell HC.out)
    clear hx
    go_wp2_with fail
    refine (slices_CloneR rs _ _ HH1.out hl).mono ?_
    rintro e w2 ⟨u, rfl, hu, hx⟩
    have X2 := hd (X1.out.trans hx)
    have HC2 := hd (hx.cell HC1.out)
    have HU := hd hu
    have hsz : w.heap.size < w1.heap.size := World.block_lt_of_cell? w1 _ HC1.out
    have hszx := hx.size
    clear hx
    obtain ⟨A3, c3, rfl, -⟩ := RdRec.form (own_rd hu)
    clear hu
    have HD := hd (slices_DeleteFuncR rs _ 86 #[.pointer (some ⟨w.heap.size, 0, none⟩)] (fun r => r.name.toList == name.toList) w2 w1.heap.size w1.heap.size HU.out hl (Nat.le_refl _) hszx enters_DropName1 (hd fun x _ w' hb => c_DropName1 x name w.heap.size w' ((Below.cell hb hsz).trans HC2.out)))
    go_wp2_with fail
    refine HD.out.mono ?_
    rintro e w3 ⟨v', rfl, ho, hg, hvb⟩
    have HO3 : Hid (Own w3 w1.heap.size 106 4 v' (dropL rs name).length (recCells (dropL rs name))) := hd ho
    have X3 : Hid (Ext w w3) := hd (ext_appS X2.out hg (fun g hg' => Nat.le_trans X1.out.size (own_blocks HU.out g hg').1))
    clear ho hg
    obtain ⟨A4, c4, rfl, -⟩ := RdRec.form (own_rd HO3.out)
    by_cases he : (dropL rs name).length = rs.length
    · have HB' : Hid (dropB rs name = false) := hd (by rw [HB.out, decide_eq_true he]; rfl)
      have HV : Hid (dropV rs name = []) := hd (by rw [HVV.out, HB'.out]; rfl)
      rw [he]
      go_wp2
      go_ret2
      exact ⟨_, by rw [HB'.out]; rfl, by rw [HV.out]; exact ⟨own_nil _ _ _ _, fun g hg => (by cases hg), sm_nil⟩, X3.out⟩
    · have HB' : Hid (dropB rs name = true) := hd (by rw [HB.out, decide_eq_false he]; rfl)
      have HV : Hid (dropV rs name = dropL rs name) := hd (by rw [HVV.out, HB'.out]; rfl)
      have hei : ¬ ((dropL rs name).length : Int) = (rs.length : Int) := by omega
      have HO4 := hd (own_rebase HO3.out X1.out.size)
      go_wp2
      go_ret2
      exact ⟨_, by rw [HB'.out]; rfl, by rw [HV.out]; exact ⟨HO4.out, own_lt HO4.out, HSM.out⟩, X3.out⟩
end Go.Proofs.Ytbeiblpikdcoeaa
