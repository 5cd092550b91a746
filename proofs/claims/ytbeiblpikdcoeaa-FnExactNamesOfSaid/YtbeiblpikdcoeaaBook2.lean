/-
  Chapter 31: which lists of records are books: both sides. Condition: sizes up to 2^20.
-/
import Derived.Test.YtbeiblpikdcoeaaBook
import Derived.IntWalk
import Derived.BigQuiet
namespace Go.Proofs.Ytbeiblpikdcoeaa
open Go.RowKit
def recOkB (r : Rec) : Bool := ((nameB r.name && inB r.sys 1 4) && inB r.size 1 9999) && inB r.extra 0 9999
def bookG : Option Rec → List Rec → Bool
  | _, [] => true
  | none, r :: rs => if recOkB r then bookG (some r) rs else false
  | some p, r :: rs => if recOkB r then (if beforeB p r.name r.sys then bookG (some r) rs else false) else false
def bookB (rs : List Rec) : Bool := decide (rs.length ≤ 24) && bookG none rs
set_option maxRecDepth 100000 in
set_option maxHeartbeats 12800000 in
theorem s_l31Good (rs : List Rec) (v : Value) (w : World) (h : Rd_RecordS w v rs) (hl : rs.length ≤ 1048576) :
    Calls Try.prog 77 #[v] w (RetX w (.bool (bookB rs))) := by
  have HSM := hd h.2
  obtain ⟨A, c, rfl, h1, h2, ha⟩ := h.form
  clear h
  by_cases h24 : rs.length ≤ 24
  · have HB : Hid (bookB rs = bookG none rs) := hd (by unfold bookB; simp [h24])
    go_enter Try.func77, Try.ntmps77
    go_wp2
    go_loopw [3, 4] (fun i _ wr => ∃ k : Nat, k ≤ rs.length ∧ i = .int .i64 k ∧ Hid (bookG none rs = bookG (if k = 0 then none else rs[k - 1]?) (rs.drop k)) ∧ Ext w wr) (fun i _ _ => rs.length - (intOf i).toNat)
    case atStart => exact ⟨0, by omega, rfl, hd rfl, Ext.refl _⟩
    case round =>
      obtain ⟨k, hk, rfl, HR, hx⟩ := hrel
      have HX := hd hx
      clear hx
      by_cases hlt : k < rs.length
      · obtain ⟨a, rfl, d0, d1, d2, d3⟩ := RdRec.at_ ha hlt
        have c0 := HX.out.cell d0
        have c1 := HX.out.cell d1
        have c2 := HX.out.cell d2
        have c3 := HX.out.cell d3
        have hsz := HSM.out _ (List.getElem_mem hlt)
        rw [drop_cons hlt] at HR
        have HXK : Hid (rs[k]? = some rs[k]) := hd (List.getElem?_eq_getElem hlt)
        clear d0 d1 d2 d3
        generalize rs[k] = r at *
        have HOK : Hid (recOkB r = (((nameB r.name && inB r.sys 1 4) && inB r.size 1 9999) && inB r.extra 0 9999)) := hd rfl
        obtain ⟨q1, hq1⟩ : ∃ q, nameB r.name = q := ⟨_, rfl⟩
        obtain ⟨q2, hq2⟩ : ∃ q, inB r.sys 1 4 = q := ⟨_, rfl⟩
        obtain ⟨q3, hq3⟩ : ∃ q, inB r.size 1 9999 = q := ⟨_, rfl⟩
        obtain ⟨q4, hq4⟩ : ∃ q, inB r.extra 0 9999 = q := ⟨_, rfl⟩
        rw [hq1, hq2, hq3, hq4] at HOK
        have H1 := hd hq1
        have H2 := hd hq2
        have H3 := hd hq3
        have H4 := hd hq4
        clear hq1 hq2 hq3 hq4
        have HXB := hd (HX.out.alloc (.cells #[.string r.name, .int .i64 r.sys, .int .i64 r.size, .int .i64 r.extra] 106))
        have HDEAD : Hid (recOkB r = false → bookB rs = false) := hd fun e => by
          rw [HB.out, HR.out]
          split <;> (try cases rs[k - 1]?) <;> (unfold bookG; rw [e]; rfl)
        by_cases hall : (((q1 && q2) && q3) && q4) = true
        · simp only [Bool.and_eq_true] at hall
          obtain ⟨⟨⟨rfl, rfl⟩, rfl⟩, rfl⟩ := hall
          have HOK1 : Hid (recOkB r = true) := hd (by rw [HOK.out]; rfl)
          clear HDEAD HOK
          rcases Nat.eq_zero_or_pos k with rfl | hpos
          · have e3 : decide ((0 : Int) < ((0 : Nat) : Int)) = false := rfl
            rw [Nat.zero_mul, Addr.add_zero'] at c0 c1 c2 c3
            go_wp2_with (first | (go_at_call 122; (with_reducible refine (rt (s_l31Name _ _ hsz) H1).mono ?_); rintro e w1 ⟨rfl, rfl⟩) | (go_at_call 123; (with_reducible refine (rt (s_l31System _ _) H2).mono ?_); rintro e w1 ⟨rfl, rfl⟩) | (go_at_call 89; first | ((with_reducible refine (rt (s_l1In _ _ _ _) H3).mono ?_); rintro e w1 ⟨rfl, rfl⟩) | ((with_reducible refine (rt (s_l1In _ _ _ _) H4).mono ?_); rintro e w1 ⟨rfl, rfl⟩)))
            go_quiet (fail)
            go_wp2
            go_roundw
            case rel => exact ⟨1, by omega, by go_num, hd (by rw [HR.out]; show bookG none (r :: rs.drop 1) = bookG rs[0]? (rs.drop 1); rw [HXK.out, bookG, if_pos HOK1.out]), HXB.out.drewN _⟩
            case measure => simp [intOf]; omega
          · obtain ⟨j, rfl⟩ : ∃ j, k = j + 1 := ⟨k - 1, by omega⟩
            obtain ⟨a2, ha2, d0, d1, d2, d3⟩ := RdRec.at_ ha (k := j) (by omega)
            cases ha2
            have HPK : Hid (rs[j]? = some (rs[j]'(by omega))) := hd (List.getElem?_eq_getElem (by omega))
            generalize rs[j]'(by omega) = p at *
            have e3 : decide ((0 : Int) < ((j + 1 : Nat) : Int)) = true := by simp <;> omega
            have e4 : (0 : Int) ≤ (j : Int) := by omega
            have e5 : (j : Int) < (rs.length : Int) := by omega
            have hwr : IntKind.i64.wrap (j : Int) = (j : Int) := IntWalk.i64_in _ (by omega)
            have hwr2 : IntKind.i64.wrap (((j + 1 : Nat) : Int) - 1) = (j : Int) := by rw [show (((j + 1 : Nat) : Int) - 1) = (j : Int) from by omega]; exact hwr
            obtain ⟨t, ht⟩ : ∃ t, beforeB p r.name r.sys = t := ⟨_, rfl⟩
            have HT := hd ht
            clear ht
            go_wp2_with (first | (go_at_call 122; (with_reducible refine (rt (s_l31Name _ _ hsz) H1).mono ?_); rintro e w1 ⟨rfl, rfl⟩) | (go_at_call 123; (with_reducible refine (rt (s_l31System _ _) H2).mono ?_); rintro e w1 ⟨rfl, rfl⟩) | (go_at_call 89; first | ((with_reducible refine (rt (s_l1In _ _ _ _) H3).mono ?_); rintro e w1 ⟨rfl, rfl⟩) | ((with_reducible refine (rt (s_l1In _ _ _ _) H4).mono ?_); rintro e w1 ⟨rfl, rfl⟩)))
            have HW : Hid (wr.cell? (a.add (j * 4)) = some (.string p.name) ∧ wr.cell? ⟨(a.add (j * 4)).block, (a.add (j * 4)).off + 1, none⟩ = some (.int .i64 p.sys) ∧ wr.cell? ⟨(a.add (j * 4)).block, (a.add (j * 4)).off + 2, none⟩ = some (.int .i64 p.size) ∧ wr.cell? ⟨(a.add (j * 4)).block, (a.add (j * 4)).off + 3, none⟩ = some (.int .i64 p.extra)) := hd ⟨HX.out.cell d0, HX.out.cell d1, HX.out.cell d2, HX.out.cell d3⟩
            clear d0 d1 d2 d3
            obtain ⟨wo, hwo⟩ : ∃ wo : World, wo = (wr.alloc (.cells #[.string r.name, .int .i64 r.sys, .int .i64 r.size, .int .i64 r.extra] 106)) := ⟨_, rfl⟩
            have b0 : wo.cell? ⟨wr.heap.size, 0, none⟩ = some (.string r.name) := by rw [hwo]; simp [go_sem]
            have b1 : wo.cell? ⟨wr.heap.size, 1, none⟩ = some (.int .i64 r.sys) := by rw [hwo]; simp [go_sem]
            have HWO : Hid (Ext wr wo) := hd (by rw [hwo]; exact Ext.new _ _)
            have d0 := HWO.out.cell HW.out.1
            have d1 := HWO.out.cell HW.out.2.1
            have d2 := HWO.out.cell HW.out.2.2.1
            have d3 := HWO.out.cell HW.out.2.2.2
            rw [← hwo] at HXB
            simp only [← hwo]
            clear hwo
            try clear c0 c1 c2 c3
            go_region_held3 (fun w' => (w'.cell? ⟨wr.heap.size, 0, none⟩ = some (.string r.name) ∧ w'.cell? ⟨wr.heap.size, 1, none⟩ = some (.int .i64 r.sys) ∧ w'.cell? (a.add (j * 4)) = some (.string p.name) ∧ w'.cell? ⟨(a.add (j * 4)).block, (a.add (j * 4)).off + 1, none⟩ = some (.int .i64 p.sys) ∧ w'.cell? ⟨(a.add (j * 4)).block, (a.add (j * 4)).off + 2, none⟩ = some (.int .i64 p.size) ∧ w'.cell? ⟨(a.add (j * 4)).block, (a.add (j * 4)).off + 3, none⟩ = some (.int .i64 p.extra)) ∧ Ext wo w')
              ((refine ⟨⟨Ext.cell ?_ b0, Ext.cell ?_ b1, Ext.cell ?_ d0, Ext.cell ?_ d1, Ext.cell ?_ d2, Ext.cell ?_ d3⟩, ?_⟩ <;> (repeat (first | assumption | exact Ext.refl _ | apply Ext.drew | exact Ext.trans (Ext.drew (Ext.refl _)) hx2))))
              (first
                | (go_at_call 124; (with_reducible refine (rtx (s_l31Before p r.name r.sys _) HT).mono ?_); rintro e w2 ⟨rfl, hx2⟩))
            have HX2 := hd (HXB.out.trans ((Ext.refl _).drew.trans hx2))
            clear hx2
            cases t
            · go_wp2
              go_ret
              exact RetX.mk (by rw [HB.out, HR.out, if_neg (by omega)]; show Value.bool false = Value.bool (bookG rs[j]? _); rw [HPK.out, bookG, if_pos HOK1.out, if_neg (by rw [HT.out]; decide)]) HX2.out
            · go_wp2
              go_roundw
              case rel => exact ⟨j + 2, by omega, by go_num, hd (by rw [HR.out, if_neg (by omega), if_neg (by omega)]; show bookG rs[j]? _ = bookG rs[j + 1]? _; rw [HPK.out, HXK.out, bookG, if_pos HOK1.out, if_pos HT.out]), HX2.out⟩
              case measure => simp [intOf]; omega
        · have HD : Hid (bookB rs = false) := hd (HDEAD.out (by rw [HOK.out]; simpa using hall))
          clear HDEAD
          cases q1
          · go_wp2_with (first | (go_at_call 122; (with_reducible refine (rt (s_l31Name _ _ hsz) H1).mono ?_); rintro e w1 ⟨rfl, rfl⟩) | (go_at_call 123; (with_reducible refine (rt (s_l31System _ _) H2).mono ?_); rintro e w1 ⟨rfl, rfl⟩) | (go_at_call 89; first | ((with_reducible refine (rt (s_l1In _ _ _ _) H3).mono ?_); rintro e w1 ⟨rfl, rfl⟩) | ((with_reducible refine (rt (s_l1In _ _ _ _) H4).mono ?_); rintro e w1 ⟨rfl, rfl⟩)))
            go_ret
            exact RetX.mk (by rw [HD.out]; rfl) HXB.out
          · cases q2
            · go_wp2_with (first | (go_at_call 122; (with_reducible refine (rt (s_l31Name _ _ hsz) H1).mono ?_); rintro e w1 ⟨rfl, rfl⟩) | (go_at_call 123; (with_reducible refine (rt (s_l31System _ _) H2).mono ?_); rintro e w1 ⟨rfl, rfl⟩) | (go_at_call 89; first | ((with_reducible refine (rt (s_l1In _ _ _ _) H3).mono ?_); rintro e w1 ⟨rfl, rfl⟩) | ((with_reducible refine (rt (s_l1In _ _ _ _) H4).mono ?_); rintro e w1 ⟨rfl, rfl⟩)))
              go_ret
              exact RetX.mk (by rw [HD.out]; rfl) HXB.out
            · cases q3
              · go_wp2_with (first | (go_at_call 122; (with_reducible refine (rt (s_l31Name _ _ hsz) H1).mono ?_); rintro e w1 ⟨rfl, rfl⟩) | (go_at_call 123; (with_reducible refine (rt (s_l31System _ _) H2).mono ?_); rintro e w1 ⟨rfl, rfl⟩) | (go_at_call 89; first | ((with_reducible refine (rt (s_l1In _ _ _ _) H3).mono ?_); rintro e w1 ⟨rfl, rfl⟩) | ((with_reducible refine (rt (s_l1In _ _ _ _) H4).mono ?_); rintro e w1 ⟨rfl, rfl⟩)))
                go_ret
                exact RetX.mk (by rw [HD.out]; rfl) HXB.out
              · cases q4
                · go_wp2_with (first | (go_at_call 122; (with_reducible refine (rt (s_l31Name _ _ hsz) H1).mono ?_); rintro e w1 ⟨rfl, rfl⟩) | (go_at_call 123; (with_reducible refine (rt (s_l31System _ _) H2).mono ?_); rintro e w1 ⟨rfl, rfl⟩) | (go_at_call 89; first | ((with_reducible refine (rt (s_l1In _ _ _ _) H3).mono ?_); rintro e w1 ⟨rfl, rfl⟩) | ((with_reducible refine (rt (s_l1In _ _ _ _) H4).mono ?_); rintro e w1 ⟨rfl, rfl⟩)))
                  go_ret
                  exact RetX.mk (by rw [HD.out]; rfl) HXB.out
                · simp at hall
      · go_wp2
        go_ret
        exact RetX.mk (by rw [HB.out, HR.out, List.drop_eq_nil_of_le (by omega)]; unfold bookG; rfl) HX.out
  · have HB : Hid (bookB rs = false) := hd (by unfold bookB; simp [h24])
    go_enter Try.func77, Try.ntmps77
    go_wp2
    go_ret
    exact RetX.mk (by rw [HB.out]; rfl) (Ext.refl _)
section
variable {P : Program} {f : FuncId} {args : Array Value} {w : World} {v v' : Value}
theorem rvx (h : Calls P f args w (RetX w v)) (e : Hid (v = v')) : Calls P f args w (RetX w v') := by have := e.out; subst this; exact h
end
theorem cmp_less : ∀ xs ys : List UInt8, Lib.compareBytes xs ys = if Op.bytesLess xs ys then -1 else if xs == ys then 0 else 1
  | [], [] => rfl
  | [], _ :: _ => rfl
  | _ :: _, [] => rfl
  | a :: xs, b :: ys => by
    have ih := cmp_less xs ys
    unfold Lib.compareBytes Op.bytesLess
    rw [ih]
    by_cases h1 : a < b
    · simp [h1]
    · by_cases h2 : b < a
      · have h3 : a ≠ b := fun e => by subst e; exact h1 h2
        simp [h1, h2, h3]
      · have h3 : a = b := UInt8.le_antisymm (UInt8.not_lt.1 h2) (UInt8.not_lt.1 h1)
        subst h3
        simp
theorem cmp_before (p r : Rec) : decide (0 ≤ cmpRec p r) = !beforeB p r.name r.sys := by
  unfold cmpRec beforeB
  rw [cmp_less, ByteArray.toList_eq, ByteArray.toList_eq]
  generalize Op.bytesLess p.name.data.toList r.name.data.toList = b1
  generalize (p.name.data.toList == r.name.data.toList) = b2
  unfold cmpI
  cases b1 <;> cases b2 <;> by_cases h1 : p.sys < r.sys <;> by_cases h2 : r.sys < p.sys <;> simp [orG, h1, h2] <;> omega
set_option maxRecDepth 100000 in
set_option maxHeartbeats 12800000 in
theorem i_IsBook (rs : List Rec) (v : Value) (w : World) (h : Rd_RecordS w v rs) (hl : rs.length ≤ 1048576) :
    Calls Try.prog 79 #[v] w (RetX w (.bool (bookB rs))) := by
  have HSM := hd h.2
  obtain ⟨A, c, rfl, h1, h2, ha⟩ := h.form
  clear h
  · have HB : Hid (bookB rs = (bookG none rs && decide (rs.length ≤ 24))) := hd (by unfold bookB; rw [Bool.and_comm])
    go_enter Try.func79, Try.ntmps79
    go_wp2
    go_loopw [7, 3, 4] (fun i _ _ wr => ∃ k : Nat, k ≤ rs.length ∧ i = .int .i64 k ∧ Hid (bookG none rs = bookG (if k = 0 then none else rs[k - 1]?) (rs.drop k)) ∧ Ext w wr) (fun i _ _ _ => rs.length - (intOf i).toNat)
    case atStart => exact ⟨0, by omega, rfl, hd rfl, Ext.refl _⟩
    case round =>
      obtain ⟨k, hk, rfl, HR, hx⟩ := hrel
      have HX := hd hx
      clear hx
      by_cases hlt : k < rs.length
      · obtain ⟨a, rfl, d0, d1, d2, d3⟩ := RdRec.at_ ha hlt
        have c0 := HX.out.cell d0
        have c1 := HX.out.cell d1
        have c2 := HX.out.cell d2
        have c3 := HX.out.cell d3
        have hsz := HSM.out _ (List.getElem_mem hlt)
        rw [drop_cons hlt] at HR
        have HXK : Hid (rs[k]? = some rs[k]) := hd (List.getElem?_eq_getElem hlt)
        clear d0 d1 d2 d3
        generalize rs[k] = r at *
        have HOK : Hid (recOkB r = (((nameB r.name && inB r.sys 1 4) && inB r.size 1 9999) && inB r.extra 0 9999)) := hd rfl
        obtain ⟨q1, hq1⟩ : ∃ q, nameB r.name = q := ⟨_, rfl⟩
        obtain ⟨q2, hq2⟩ : ∃ q, inB r.sys 1 4 = q := ⟨_, rfl⟩
        obtain ⟨q3, hq3⟩ : ∃ q, inB r.size 1 9999 = q := ⟨_, rfl⟩
        obtain ⟨q4, hq4⟩ : ∃ q, inB r.extra 0 9999 = q := ⟨_, rfl⟩
        rw [hq1, hq2, hq3, hq4] at HOK
        have H1 := hd hq1
        have H2 := hd hq2
        have H3 := hd hq3
        have H4 := hd hq4
        clear hq1 hq2 hq3 hq4
        have HXB := hd (HX.out.alloc (.cells #[.string r.name, .int .i64 r.sys, .int .i64 r.size, .int .i64 r.extra] 106))
        have HDEAD : Hid (recOkB r = false → bookB rs = false) := hd fun e => by
          rw [HB.out, HR.out]
          split <;> (try cases rs[k - 1]?) <;> (unfold bookG; rw [e]; rfl)
        by_cases hall : (((q1 && q2) && q3) && q4) = true
        · simp only [Bool.and_eq_true] at hall
          obtain ⟨⟨⟨rfl, rfl⟩, rfl⟩, rfl⟩ := hall
          have HOK1 : Hid (recOkB r = true) := hd (by rw [HOK.out]; rfl)
          clear HDEAD HOK
          rcases Nat.eq_zero_or_pos k with rfl | hpos
          · have e3 : decide ((0 : Int) < ((0 : Nat) : Int)) = false := rfl
            rw [Nat.zero_mul, Addr.add_zero'] at c0 c1 c2 c3
            go_wp2_with (first | (go_at_call 125; (with_reducible refine (rt (i_nameOk _ _ hsz) H1).mono ?_); rintro e w1 ⟨rfl, rfl⟩) | (go_at_call 126; (with_reducible refine (rt (i_systemOk _ _) H2).mono ?_); rintro e w1 ⟨rfl, rfl⟩) | (go_at_call 93; first | ((with_reducible refine (rt (i_within _ _ _ _) H3).mono ?_); rintro e w1 ⟨rfl, rfl⟩) | ((with_reducible refine (rt (i_within _ _ _ _) H4).mono ?_); rintro e w1 ⟨rfl, rfl⟩)))
            go_quiet (fail)
            go_wp2
            go_roundw
            case rel => exact ⟨1, by omega, by go_num, hd (by rw [HR.out]; show bookG none (r :: rs.drop 1) = bookG rs[0]? (rs.drop 1); rw [HXK.out, bookG, if_pos HOK1.out]), HXB.out.drewN _⟩
            case measure => simp [intOf]; omega
          · obtain ⟨j, rfl⟩ : ∃ j, k = j + 1 := ⟨k - 1, by omega⟩
            obtain ⟨a2, ha2, d0, d1, d2, d3⟩ := RdRec.at_ ha (k := j) (by omega)
            cases ha2
            have HPK : Hid (rs[j]? = some (rs[j]'(by omega))) := hd (List.getElem?_eq_getElem (by omega))
            generalize rs[j]'(by omega) = p at *
            have e3 : decide ((0 : Int) < ((j + 1 : Nat) : Int)) = true := by simp <;> omega
            have e4 : (0 : Int) ≤ (j : Int) := by omega
            have e5 : (j : Int) < (rs.length : Int) := by omega
            have hwr : IntKind.i64.wrap (j : Int) = (j : Int) := IntWalk.i64_in _ (by omega)
            have hwr2 : IntKind.i64.wrap (((j + 1 : Nat) : Int) - 1) = (j : Int) := by rw [show (((j + 1 : Nat) : Int) - 1) = (j : Int) from by omega]; exact hwr
            obtain ⟨t, ht⟩ : ∃ t, beforeB p r.name r.sys = t := ⟨_, rfl⟩
            have HT := hd ht
            clear ht
            obtain ⟨m, hm⟩ : ∃ m, cmpRec p r = m := ⟨_, rfl⟩
            have hm0 : decide (0 ≤ m) = !t := by rw [← hm, cmp_before, HT.out]
            have HM : Hid (Value.int .i64 (cmpRec p r) = .int .i64 m) := hd (by rw [hm])
            clear hm
            go_wp2_with (first | (go_at_call 125; (with_reducible refine (rt (i_nameOk _ _ hsz) H1).mono ?_); rintro e w1 ⟨rfl, rfl⟩) | (go_at_call 126; (with_reducible refine (rt (i_systemOk _ _) H2).mono ?_); rintro e w1 ⟨rfl, rfl⟩) | (go_at_call 93; first | ((with_reducible refine (rt (i_within _ _ _ _) H3).mono ?_); rintro e w1 ⟨rfl, rfl⟩) | ((with_reducible refine (rt (i_within _ _ _ _) H4).mono ?_); rintro e w1 ⟨rfl, rfl⟩)))
            have HW : Hid (wr.cell? (a.add (j * 4)) = some (.string p.name) ∧ wr.cell? ⟨(a.add (j * 4)).block, (a.add (j * 4)).off + 1, none⟩ = some (.int .i64 p.sys) ∧ wr.cell? ⟨(a.add (j * 4)).block, (a.add (j * 4)).off + 2, none⟩ = some (.int .i64 p.size) ∧ wr.cell? ⟨(a.add (j * 4)).block, (a.add (j * 4)).off + 3, none⟩ = some (.int .i64 p.extra)) := hd ⟨HX.out.cell d0, HX.out.cell d1, HX.out.cell d2, HX.out.cell d3⟩
            clear d0 d1 d2 d3
            obtain ⟨wo, hwo⟩ : ∃ wo : World, wo = (wr.alloc (.cells #[.string r.name, .int .i64 r.sys, .int .i64 r.size, .int .i64 r.extra] 106)) := ⟨_, rfl⟩
            have b0 : wo.cell? ⟨wr.heap.size, 0, none⟩ = some (.string r.name) := by rw [hwo]; simp [go_sem]
            have b1 : wo.cell? ⟨wr.heap.size, 1, none⟩ = some (.int .i64 r.sys) := by rw [hwo]; simp [go_sem]
            have b2 : wo.cell? ⟨wr.heap.size, 2, none⟩ = some (.int .i64 r.size) := by rw [hwo]; simp [go_sem]
            have b3 : wo.cell? ⟨wr.heap.size, 3, none⟩ = some (.int .i64 r.extra) := by rw [hwo]; simp [go_sem]
            have HWO : Hid (Ext wr wo) := hd (by rw [hwo]; exact Ext.new _ _)
            have d0 := HWO.out.cell HW.out.1
            have d1 := HWO.out.cell HW.out.2.1
            have d2 := HWO.out.cell HW.out.2.2.1
            have d3 := HWO.out.cell HW.out.2.2.2
            rw [← hwo] at HXB
            simp only [← hwo]
            clear hwo
            try clear c0 c1 c2 c3
            go_region_held3 (fun w' => (w'.cell? ⟨wr.heap.size, 0, none⟩ = some (.string r.name) ∧ w'.cell? ⟨wr.heap.size, 1, none⟩ = some (.int .i64 r.sys) ∧ w'.cell? ⟨wr.heap.size, 2, none⟩ = some (.int .i64 r.size) ∧ w'.cell? ⟨wr.heap.size, 3, none⟩ = some (.int .i64 r.extra) ∧ w'.cell? (a.add (j * 4)) = some (.string p.name) ∧ w'.cell? ⟨(a.add (j * 4)).block, (a.add (j * 4)).off + 1, none⟩ = some (.int .i64 p.sys) ∧ w'.cell? ⟨(a.add (j * 4)).block, (a.add (j * 4)).off + 2, none⟩ = some (.int .i64 p.size) ∧ w'.cell? ⟨(a.add (j * 4)).block, (a.add (j * 4)).off + 3, none⟩ = some (.int .i64 p.extra)) ∧ Ext wo w')
              ((refine ⟨⟨Ext.cell ?_ b0, Ext.cell ?_ b1, Ext.cell ?_ b2, Ext.cell ?_ b3, Ext.cell ?_ d0, Ext.cell ?_ d1, Ext.cell ?_ d2, Ext.cell ?_ d3⟩, ?_⟩ <;> (repeat (first | assumption | exact Ext.refl _ | apply Ext.drew | exact Ext.trans (Ext.drew (Ext.refl _)) hx2))))
              (first
                | (go_at_call 127; (with_reducible refine (rvx (i_compareRecords p r _) HM).mono ?_); rintro e w2 ⟨rfl, hx2⟩))
            have HX2 := hd (HXB.out.trans ((Ext.refl _).drew.trans hx2))
            clear hx2
            cases t
            · go_wp2
              go_ret
              exact RetX.mk (by rw [HB.out, HR.out, if_neg (by omega)]; show Value.bool false = Value.bool (bookG rs[j]? _ && decide _); rw [HPK.out, bookG, if_pos HOK1.out, if_neg (by rw [HT.out]; decide)]; rfl) HX2.out
            · go_wp2
              go_roundw
              case rel => exact ⟨j + 2, by omega, by go_num, hd (by rw [HR.out, if_neg (by omega), if_neg (by omega)]; show bookG rs[j]? _ = bookG rs[j + 1]? _; rw [HPK.out, HXK.out, bookG, if_pos HOK1.out, if_pos HT.out]), HX2.out⟩
              case measure => simp [intOf]; omega
        · have HD : Hid (bookB rs = false) := hd (HDEAD.out (by rw [HOK.out]; simpa using hall))
          clear HDEAD
          cases q1
          · go_wp2_with (first | (go_at_call 125; (with_reducible refine (rt (i_nameOk _ _ hsz) H1).mono ?_); rintro e w1 ⟨rfl, rfl⟩) | (go_at_call 126; (with_reducible refine (rt (i_systemOk _ _) H2).mono ?_); rintro e w1 ⟨rfl, rfl⟩) | (go_at_call 93; first | ((with_reducible refine (rt (i_within _ _ _ _) H3).mono ?_); rintro e w1 ⟨rfl, rfl⟩) | ((with_reducible refine (rt (i_within _ _ _ _) H4).mono ?_); rintro e w1 ⟨rfl, rfl⟩)))
            go_ret
            exact RetX.mk (by rw [HD.out]; rfl) HXB.out
          · cases q2
            · go_wp2_with (first | (go_at_call 125; (with_reducible refine (rt (i_nameOk _ _ hsz) H1).mono ?_); rintro e w1 ⟨rfl, rfl⟩) | (go_at_call 126; (with_reducible refine (rt (i_systemOk _ _) H2).mono ?_); rintro e w1 ⟨rfl, rfl⟩) | (go_at_call 93; first | ((with_reducible refine (rt (i_within _ _ _ _) H3).mono ?_); rintro e w1 ⟨rfl, rfl⟩) | ((with_reducible refine (rt (i_within _ _ _ _) H4).mono ?_); rintro e w1 ⟨rfl, rfl⟩)))
              go_ret
              exact RetX.mk (by rw [HD.out]; rfl) HXB.out
            · cases q3
              · go_wp2_with (first | (go_at_call 125; (with_reducible refine (rt (i_nameOk _ _ hsz) H1).mono ?_); rintro e w1 ⟨rfl, rfl⟩) | (go_at_call 126; (with_reducible refine (rt (i_systemOk _ _) H2).mono ?_); rintro e w1 ⟨rfl, rfl⟩) | (go_at_call 93; first | ((with_reducible refine (rt (i_within _ _ _ _) H3).mono ?_); rintro e w1 ⟨rfl, rfl⟩) | ((with_reducible refine (rt (i_within _ _ _ _) H4).mono ?_); rintro e w1 ⟨rfl, rfl⟩)))
                go_ret
                exact RetX.mk (by rw [HD.out]; rfl) HXB.out
              · cases q4
                · go_wp2_with (first | (go_at_call 125; (with_reducible refine (rt (i_nameOk _ _ hsz) H1).mono ?_); rintro e w1 ⟨rfl, rfl⟩) | (go_at_call 126; (with_reducible refine (rt (i_systemOk _ _) H2).mono ?_); rintro e w1 ⟨rfl, rfl⟩) | (go_at_call 93; first | ((with_reducible refine (rt (i_within _ _ _ _) H3).mono ?_); rintro e w1 ⟨rfl, rfl⟩) | ((with_reducible refine (rt (i_within _ _ _ _) H4).mono ?_); rintro e w1 ⟨rfl, rfl⟩)))
                  go_ret
                  exact RetX.mk (by rw [HD.out]; rfl) HXB.out
                · simp at hall
      · go_wp2
        go_ret
        exact RetX.mk (by rw [HB.out, HR.out, List.drop_eq_nil_of_le (by omega)]; unfold bookG; exact congrArg Value.bool (by rw [Bool.true_and]; exact decide_eq_decide.2 (by omega))) HX.out
end Go.Proofs.Ytbeiblpikdcoeaa
