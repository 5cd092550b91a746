/-
  Chapter 31: names, systems, and which lists of records are books; both sides. Condition: sizes up to 2^20.
-/
import Derived.Test.YtbeiblpikdcoeaaRec
import Derived.Test.YtbeiblpikdcoeaaC1
import Derived.WalkLawsBesides
import Derived.Lib.Walk
import Derived.Lib.Bytealg
import Derived.Deep.DrawnRows
namespace Go.Proofs.Ytbeiblpikdcoeaa
open Go.RowKit

theorem rdI_two {w : World} {b : Nat} {x y : Int} {e : TypeId} {fr : Nat × Nat} (h : w.heap[b]? = some (.cells #[.int .i64 x, .int .i64 y] e fr)) : RdI w (.slice (some ⟨b, 0, none⟩) 2 2) [x, y] := by
  refine ⟨rfl, some ⟨b, 0, none⟩, 2, rfl, Nat.le_refl _, by unfold maxLen; omega, fun j u hu => ⟨_, rfl, ?_⟩⟩
  exact World.news_of_block h j u hu
def okByte (c : UInt8) : Bool := (decide (97 ≤ (c.toNat : Int)) && decide ((c.toNat : Int) ≤ 122)) || (decide (48 ≤ (c.toNat : Int)) && decide ((c.toNat : Int) ≤ 57))
theorem okByte_iff {c : UInt8} : okByte c = true ↔ (97 ≤ (c.toNat : Int) ∧ (c.toNat : Int) ≤ 122) ∨ (48 ≤ (c.toNat : Int) ∧ (c.toNat : Int) ≤ 57) := by simp [okByte]
theorem okByte_no {c : UInt8} : okByte c = false ↔ ¬ ((97 ≤ (c.toNat : Int) ∧ (c.toNat : Int) ≤ 122) ∨ (48 ≤ (c.toNat : Int) ∧ (c.toNat : Int) ≤ 57)) := by rw [← okByte_iff, Bool.not_eq_true]
def bytesG : List UInt8 → Bool
  | [] => true
  | c :: r => if okByte c then bytesG r else false
def nameB (s : ByteArray) : Bool := inB s.size 1 12 && bytesG s.data.toList
set_option maxRecDepth 100000 in
set_option maxHeartbeats 1600000 in
theorem s_l31Name (s : ByteArray) (w : World) (hs : s.size ≤ 9223372036854775807) : Calls Try.prog 122 #[.string s] w (Ret w (.bool (nameB s))) := by
  obtain ⟨b, hb⟩ : ∃ b, inB s.size 1 12 = b := ⟨_, rfl⟩
  have HB := hd hb
  clear hb
  go_enter Try.func122, Try.ntmps122
  go_wp2_with fail
  refine (rt (s_l1In _ _ _ _) HB).mono ?_
  rintro e w1 ⟨rfl, rfl⟩
  cases b
  · go_wp2
    go_ret
    exact Ret.mk (by unfold nameB; rw [HB.out]; rfl)
  · have HN : Hid (nameB s = bytesG s.data.toList) := hd (by unfold nameB; rw [HB.out]; rfl)
    go_wp2
    go_loop [3] (fun i => ∃ k : Nat, k ≤ s.size ∧ i = .int .i64 k ∧ Hid (nameB s = bytesG (s.data.toList.drop k))) (fun i => s.size - (intOf i).toNat)
    case atStart => exact ⟨0, by omega, rfl, HN⟩
    case round =>
      obtain ⟨k, hk, rfl, HR⟩ := hrel
      by_cases hlt : k < s.size
      · have HD : Hid (s.data.toList.drop k = s[k] :: s.data.toList.drop (k + 1)) := hd (List.drop_eq_getElem_cons (by simpa using hlt))
        go_wp2
        all_goals first
          | (have hno := (okByte_no (c := s[k])).2 (by omega)
             have HNO := hd hno
             clear hno
             go_ret
             exact Ret.mk (by rw [HR.out, HD.out, bytesG, HNO.out]; rfl))
          | (have hok := (okByte_iff (c := s[k])).2 (by omega)
             have HOK := hd hok
             clear hok
             go_round
             case rel => exact ⟨k + 1, by omega, by go_num, hd (by rw [HR.out, HD.out, bytesG, if_pos HOK.out])⟩
             case measure => simp [intOf]; omega)
      · go_wp2
        go_ret
        exact Ret.mk (by rw [HR.out, List.drop_eq_nil_of_le (by simp; omega)]; rfl)
set_option maxRecDepth 100000 in
set_option maxHeartbeats 1600000 in
theorem i_nameOk (s : ByteArray) (w : World) (hs : s.size ≤ 9223372036854775807) : Calls Try.prog 125 #[.string s] w (Ret w (.bool (nameB s))) := by
  go_enter Try.func125, Try.ntmps125
  go_wp2
  go_loop [7, 3, 4] (fun i _ _ => ∃ k : Nat, k ≤ s.size ∧ i = .int .i64 k ∧ Hid (bytesG s.data.toList = bytesG (s.data.toList.drop k))) (fun i _ _ => s.size - (intOf i).toNat)
  case atStart => exact ⟨0, by omega, rfl, hd rfl⟩
  case round =>
    obtain ⟨k, hk, rfl, HR⟩ := hrel
    by_cases hlt : k < s.size
    · have HD : Hid (s.data.toList.drop k = s[k] :: s.data.toList.drop (k + 1)) := hd (List.drop_eq_getElem_cons (by simpa using hlt))
      go_wp2
      all_goals first
        | (have hno := (okByte_no (c := s[k])).2 (by omega)
           have HNO := hd hno
           clear hno
           go_ret
           exact Ret.mk (by unfold nameB; rw [HR.out, HD.out, bytesG, HNO.out]; simp))
        | (have hok := (okByte_iff (c := s[k])).2 (by omega)
           have HOK := hd hok
           clear hok
           go_round
           case rel => exact ⟨k + 1, by omega, by go_num, hd (by rw [HR.out, HD.out, bytesG, if_pos HOK.out])⟩
           case measure => simp [intOf]; omega)
    · go_wp2_with fail
      refine (i_within _ _ _ _).mono ?_
      rintro e w1 ⟨rfl, rfl⟩
      go_wp2
      go_ret
      exact Ret.mk (by unfold nameB; rw [HR.out, List.drop_eq_nil_of_le (by simp; omega), bytesG, Bool.and_true]; rfl)
theorem s_l31System (n : Int) (w : World) : Calls Try.prog 123 #[.int .i64 n] w (Ret w (.bool (inB n 1 4))) := by
  go_enter Try.func123, Try.ntmps123
  go_wp2_with fail
  refine (s_l1In _ _ _ _).mono ?_
  rintro e w1 ⟨rfl, rfl⟩
  go_wp2
  go_ret
  exact Ret.mk rfl
theorem i_systemOk (n : Int) (w : World) : Calls Try.prog 126 #[.int .i64 n] w (Ret w (.bool (inB n 1 4))) := by
  go_enter Try.func126, Try.ntmps126
  go_wp2_with fail
  refine (i_within _ _ _ _).mono ?_
  rintro e w1 ⟨rfl, rfl⟩
  go_wp2
  go_ret
  exact Ret.mk rfl
/-- A record is before a name and a system. -/
def beforeB (r : Rec) (s : ByteArray) (k : Int) : Bool := Op.bytesLess r.name.toList s.toList || (r.name.toList == s.toList && decide (r.sys < k))
set_option maxRecDepth 100000 in
set_option maxHeartbeats 800000 in
theorem s_l31Before (r : Rec) (s : ByteArray) (k : Int) (w : World) :
    Calls Try.prog 124 #[.agg #[.string r.name, .int .i64 r.sys, .int .i64 r.size, .int .i64 r.extra], .string s, .int .i64 k] w (RetX w (.bool (beforeB r s k))) := by
  obtain ⟨nm, x, y, z⟩ := r
  unfold beforeB
  dsimp only
  obtain ⟨b1, hb1⟩ : ∃ b, Op.bytesLess nm.toList s.toList = b := ⟨_, rfl⟩
  obtain ⟨b2, hb2⟩ : ∃ b, (nm.toList == s.toList) = b := ⟨_, rfl⟩
  have HF : Hid ((Op.bytesLess nm.toList s.toList || (nm.toList == s.toList && decide (x < k))) = (b1 || (b2 && decide (x < k)))) := hd (by rw [hb1, hb2])
  obtain ⟨u, hu⟩ : ∃ u, (Op.bytesLess nm.toList s.toList || (nm.toList == s.toList && decide (x < k))) = u := ⟨_, rfl⟩
  rw [hu] at HF ⊢
  clear hu
  cases b1
  · cases b2
    · go_enter Try.func124, Try.ntmps124
      go_wp2
      go_ret
      exact RetX.mk (by rw [HF.out]; rfl) (Ext.new _ _)
    · by_cases hx : x < k
      all_goals
        go_enter Try.func124, Try.ntmps124
        go_wp2
        go_ret
        exact RetX.mk (by rw [HF.out]; simp [hx]) (Ext.new _ _)
  · go_enter Try.func124, Try.ntmps124
    go_wp2
    go_ret
    exact RetX.mk (by rw [HF.out]; rfl) (Ext.new _ _)
set_option maxRecDepth 100000 in
set_option maxHeartbeats 1000000 in
theorem c_CompareString (a b : ByteArray) (w : World) : Calls Try.prog 163 #[.string a, .string b] w (Ret w (.int .i64 (Lib.compareBytes a.data.toList b.data.toList))) := by
  go_enter Try.func163, Try.ntmps163
  go_wp2
  rw [run_callFunc_extern Try.func179 (by kernel_rfl) (by kernel_rfl) (by kernel_rfl) (e := Extern.BytealgCompare.compare) (by kernel_rfl), Lib.run_compareString]
  simp only [Result.andThen]
  rw [Oper.upon_value]
  go_wp2
  go_ret
  exact Ret.mk rfl
theorem c_strings_Compare (a b : ByteArray) (w : World) : Calls Try.prog 148 #[.string a, .string b] w (Ret w (.int .i64 (Lib.compareBytes a.data.toList b.data.toList))) := by
  go_enter Try.func148, Try.ntmps148
  go_wp2_with fail
  refine (c_CompareString _ _ _).mono ?_
  rintro e w1 ⟨rfl, rfl⟩
  go_wp2
  go_ret
  exact Ret.mk rfl
theorem c_isNaN (x : Int) (w : World) : Calls Try.prog 164 #[.int .i64 x] w (Ret w (.bool false)) := by
  go_enter Try.func164, Try.ntmps164
  go_wp2
  go_ret
  exact Ret.mk (by simp)
def cmpI (a b : Int) : Int := if a < b then -1 else if b < a then 1 else 0
set_option maxHeartbeats 800000 in
theorem c_cmp_Compare (a b : Int) (w : World) : Calls Try.prog 149 #[.int .i64 a, .int .i64 b] w (Ret w (.int .i64 (cmpI a b))) := by
  by_cases h1 : a < b
  · have HF : Hid (cmpI a b = -1) := hd (by unfold cmpI; rw [if_pos h1])
    go_enter Try.func149, Try.ntmps149
    go_wp2_with (go_at_call 164; refine (c_isNaN _ _).mono ?_; rintro e w1 ⟨rfl, rfl⟩)
    go_ret
    exact Ret.mk (congrArg (Value.int .i64) HF.out.symm)
  · by_cases h2 : b < a
    · have HF : Hid (cmpI a b = 1) := hd (by unfold cmpI; rw [if_neg h1, if_pos h2])
      go_enter Try.func149, Try.ntmps149
      go_wp2_with (go_at_call 164; refine (c_isNaN _ _).mono ?_; rintro e w1 ⟨rfl, rfl⟩)
      go_ret
      exact Ret.mk (congrArg (Value.int .i64) HF.out.symm)
    · have HF : Hid (cmpI a b = 0) := hd (by unfold cmpI; rw [if_neg h1, if_neg h2])
      go_enter Try.func149, Try.ntmps149
      go_wp2_with (go_at_call 164; refine (c_isNaN _ _).mono ?_; rintro e w1 ⟨rfl, rfl⟩)
      go_ret
      exact Ret.mk (congrArg (Value.int .i64) HF.out.symm)
/-- The first of the numbers that is not 0, or 0. -/
def orG : List Int → Int
  | [] => 0
  | x :: r => if x = 0 then orG r else x
set_option maxHeartbeats 800000 in
theorem c_cmp_Or (xs : List Int) (v : Value) (w : World) (h : RdI w v xs) (hl : xs.length ≤ 1073741824) : Calls Try.prog 147 #[v] w (Ret w (.int .i64 (orG xs))) := by
  obtain ⟨A, c, rfl, h1, h2, ha⟩ := h.form
  clear h
  go_enter Try.func147, Try.ntmps147
  go_wp2
  go_loop [8, 5] (fun i _ => ∃ k : Nat, k ≤ xs.length ∧ i = .int .i64 k ∧ Hid (orG xs = orG (xs.drop k))) (fun i _ => xs.length - (intOf i).toNat)
  case atStart => exact ⟨0, by omega, rfl, hd rfl⟩
  case round =>
    obtain ⟨k, hk, rfl, HR⟩ := hrel
    by_cases hlt : k < xs.length
    · obtain ⟨a, rfl, hc⟩ := RdI.at_ ha hlt
      rw [drop_cons hlt] at HR
      generalize xs[k] = y at *
      by_cases hy : y = 0
      · subst hy
        go_wp2
        go_round
        case rel => exact ⟨k + 1, by omega, by go_num, hd (by rw [HR.out, orG, if_pos rfl])⟩
        case measure => simp [intOf]; omega
      · have hb : (y != 0) = true := by simp [hy]
        have HY : Hid (orG xs = y) := hd (by rw [HR.out, orG, if_neg hy])
        clear hy
        go_wp2
        go_ret
        exact Ret.mk (congrArg (Value.int .i64) HY.out.symm)
    · go_wp2
      go_ret
      exact Ret.mk (by rw [HR.out, List.drop_eq_nil_of_le (by omega)]; rfl)
def cmpRec (a b : Rec) : Int := orG [Lib.compareBytes a.name.data.toList b.name.data.toList, cmpI a.sys b.sys]
set_option maxRecDepth 100000 in
set_option maxHeartbeats 1600000 in
theorem i_compareRecords (a b : Rec) (w : World) :
    Calls Try.prog 127 #[.agg #[.string a.name, .int .i64 a.sys, .int .i64 a.size, .int .i64 a.extra], .agg #[.string b.name, .int .i64 b.sys, .int .i64 b.size, .int .i64 b.extra]] w (RetX w (.int .i64 (cmpRec a b))) := by
  obtain ⟨s, x, y, z⟩ := a
  obtain ⟨s', x', y', z'⟩ := b
  have HF : Hid (cmpRec ⟨s, x, y, z⟩ ⟨s', x', y', z'⟩ = orG [Lib.compareBytes s.data.toList s'.data.toList, cmpI x x']) := hd rfl
  dsimp only
  go_enter Try.func127, Try.ntmps127
  go_wp2_with fail
  have X0 : Hid (Ext w ((w.alloc (.cells #[.string s, .int .i64 x, .int .i64 y, .int .i64 z] 106)).alloc (.cells #[.string s', .int .i64 x', .int .i64 y', .int .i64 z'] 106))) := hd ((Ext.new _ _).alloc _)
  obtain ⟨wo, hwo⟩ : ∃ wo : World, wo = ((w.alloc (.cells #[.string s, .int .i64 x, .int .i64 y, .int .i64 z] 106)).alloc (.cells #[.string s', .int .i64 x', .int .i64 y', .int .i64 z'] 106)) := ⟨_, rfl⟩
  have c0 : wo.cell? ⟨w.heap.size, 0, none⟩ = some (.string s) := by rw [hwo]; simp [go_sem]
  have c1 : wo.cell? ⟨w.heap.size, 1, none⟩ = some (.int .i64 x) := by rw [hwo]; simp [go_sem]
  have d0 : wo.cell? ⟨w.heap.size + 1, 0, none⟩ = some (.string s') := by rw [hwo]; simp [go_sem]
  have d1 : wo.cell? ⟨w.heap.size + 1, 1, none⟩ = some (.int .i64 x') := by rw [hwo]; simp [go_sem]
  rw [← hwo] at X0 ⊢
  clear hwo
  go_region_held3 (fun w' => (w'.cell? ⟨w.heap.size, 0, none⟩ = some (.string s) ∧ w'.cell? ⟨w.heap.size, 1, none⟩ = some (.int .i64 x) ∧ w'.cell? ⟨w.heap.size + 1, 0, none⟩ = some (.string s') ∧ w'.cell? ⟨w.heap.size + 1, 1, none⟩ = some (.int .i64 x')) ∧ Ext wo w')
    ((refine ⟨⟨Ext.cell ?_ c0, Ext.cell ?_ c1, Ext.cell ?_ d0, Ext.cell ?_ d1⟩, ?_⟩ <;> (repeat (first | assumption | exact Ext.refl _ | apply Ext.drew | refine Ext.alloc ?_ _))))
    (first
      | (go_at_call 148; refine (c_strings_Compare s s' _).mono ?_; rintro e w2 ⟨rfl, rfl⟩)
      | (go_at_call 149; refine (c_cmp_Compare x x' _).mono ?_; rintro e w3 ⟨rfl, rfl⟩)
      | (go_at_call 147; refine (c_cmp_Or [Lib.compareBytes s.data.toList s'.data.toList, cmpI x x'] _ _ ?_ (by simp)).mono ?_
         · exact rdI_two (blk_new _ rfl)
         rintro e w4 ⟨rfl, rfl⟩))
  go_wp2
  go_ret
  exact RetX.mk (congrArg (Value.int .i64) HF.out.symm) ((X0.out.alloc _).drew)
end Go.Proofs.Ytbeiblpikdcoeaa
