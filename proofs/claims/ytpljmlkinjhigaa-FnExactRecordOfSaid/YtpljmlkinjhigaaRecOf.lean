/-
  RecordOf, both sides. No condition of its own.
-/
import Derived.Test.YtpljmlkinjhigaaBook3
import Derived.Test.YtpljmlkinjhigaaHo
import Derived.Test.YtpljmlkinjhigaaSmall
namespace Go.Proofs.Ytpljmlkinjhigaa
open Go.RowKit
def aggR (r : Rec) : Value := .agg #[.string r.name, .int .i64 r.sys, .int .i64 r.size, .int .i64 r.extra]
def isRec (name : ByteArray) (k : Int) (r : Rec) : Bool := (r.name.toList == name.toList) && decide (r.sys = k)
/-- The function value of g with captured values cs answers p on records, in w and whatever grows from it. -/
def AnsR (g : FuncId) (cs : Array Value) (p : Rec → Bool) (xs : List Rec) (w : World) : Prop := ∀ x ∈ xs, ∀ w', Ext w w' → Calls Try.prog g (#[aggR x] ++ cs) w' (RetX w' (.bool (p x)))
def findR (p : Rec → Bool) : List Rec → Int → Int
  | [], _ => -1
  | y :: r, k => if p y then k else findR p r (k + 1)
set_option maxHeartbeats 800000 in
theorem slices_IndexFuncR (xs : List Rec) (v : Value) (g : FuncId) (cs : Array Value) (p : Rec → Bool) (w : World) (h : RdRec w v xs) (hl : xs.length ≤ 1048576) (hg : Enters g) (hp : Hid (AnsR g cs p xs w)) :
    Calls Try.prog 57 #[v, .func (.func g) #[] cs] w (RetX w (.int .i64 (findR p xs 0))) := by
  obtain ⟨A, c, rfl, h1, h2, ha⟩ := h.form
  clear h
  go_enter Try.func57, Try.ntmps57
  go_wp2
  go_loopw [8] (fun i wr => ∃ k : Nat, k ≤ xs.length ∧ i = .int .i64 k ∧ Hid (findR p xs 0 = findR p (xs.drop k) k) ∧ Ext w wr) (fun i _ => xs.length - (intOf i).toNat)
  case atStart => exact ⟨0, by omega, rfl, hd rfl, Ext.refl _⟩
  case round =>
    obtain ⟨k, hk, rfl, HR, hx⟩ := hrel
    have HX := hd hx
    clear hx
    by_cases hlt : k < xs.length
    · obtain ⟨a, rfl, d0, d1, d2, d3⟩ := RdRec.at_ ha hlt
      have c0 := HX.out.cell d0
      have c1 := HX.out.cell d1
      have c2 := HX.out.cell d2
      have c3 := HX.out.cell d3
      clear d0 d1 d2 d3
      rw [drop_cons hlt] at HR
      have hm := hd (List.getElem_mem hlt)
      generalize xs[k] = y at *
      unfold Enters at hg
      obtain ⟨b, hb⟩ : ∃ b, p y = b := ⟨_, rfl⟩
      have HB := hd hb
      clear hb
      go_wp2_with fail
      refine (hp.out y hm.out _ HX.out).mono ?_
      rintro e w1 ⟨rfl, hx1⟩
      have HX1 := hd (HX.out.trans hx1)
      clear hx1
      rw [HB.out]
      cases b
      · go_wp2
        go_roundw
        case rel => exact ⟨k + 1, by omega, by go_num, hd (by rw [HR.out, findR, HB.out]; rfl), HX1.out⟩
        case measure => simp [intOf]; omega
      · go_wp2
        go_ret
        exact RetX.mk (by rw [HR.out, findR, HB.out]; rfl) HX1.out
    · go_wp2
      go_ret
      exact RetX.mk (by rw [HR.out, List.drop_eq_nil_of_le (by omega)]; rfl) HX.out
set_option maxHeartbeats 800000 in
theorem c_RecordOf1 (r : Rec) (name : ByteArray) (k : Int) (b4 b5 : Nat) (w : World) (h4 : w.cell? ⟨b4, 0, none⟩ = some (.string name)) (h5 : w.cell? ⟨b5, 0, none⟩ = some (.int .i64 k)) :
    Calls Try.prog 58 #[aggR r, .pointer (some ⟨b4, 0, none⟩), .pointer (some ⟨b5, 0, none⟩)] w (RetX w (.bool (isRec name k r))) := by
  obtain ⟨nm, x, y, z⟩ := r
  unfold aggR isRec
  dsimp only
  obtain ⟨t, ht⟩ : ∃ t, (nm.toList == name.toList) = t := ⟨_, rfl⟩
  rw [ht]
  have q4 := (Ext.new w (.cells #[.string nm, .int .i64 x, .int .i64 y, .int .i64 z] 25)).cell h4
  have q5 := (Ext.new w (.cells #[.string nm, .int .i64 x, .int .i64 y, .int .i64 z] 25)).cell h5
  go_enter Try.func58, Try.ntmps58
  cases t
  · go_wp2
    go_ret
    exact RetX.mk rfl (Ext.new _ _)
  · go_wp2
    go_ret
    exact RetX.mk rfl (Ext.new _ _)
theorem enters_RecordOf1 : Enters 58 := fun args w => by kernel_rfl
def recFind (rs : List Rec) (name : ByteArray) (k : Int) : Option Rec := rs.find? (isRec name k)
def zeroR : Rec := ⟨.empty, 0, 0, 0⟩
def recOk (rs : List Rec) (name : ByteArray) (k : Int) : Bool := (bookB rs && nameB name) && inB k 1 4
def recOfR (rs : List Rec) (name : ByteArray) (k : Int) : Rec := if bookB rs then (recFind rs name k).getD zeroR else zeroR
def recOfB (rs : List Rec) (name : ByteArray) (k : Int) : Bool := bookB rs && (recFind rs name k).isSome
theorem findR_none (p : Rec → Bool) : ∀ (rs : List Rec) (k : Int), rs.find? p = none → findR p rs k = -1
  | [], _, _ => rfl
  | r :: rs, k, h => by
    rw [List.find?_cons] at h
    unfold findR
    cases hp : p r with
    | true => rw [hp] at h; exact absurd h (by simp)
    | false => rw [hp] at h; exact findR_none p rs (k + 1) h
theorem findR_some (p : Rec → Bool) (x : Rec) : ∀ (rs : List Rec) (k : Int), rs.find? p = some x → ∃ j : Nat, findR p rs k = k + j ∧ j < rs.length ∧ rs[j]? = some x
  | [], _, h => by simp at h
  | r :: rs, k, h => by
    rw [List.find?_cons] at h
    unfold findR
    cases hp : p r with
    | true => rw [hp] at h; injection h with h; exact ⟨0, by simp, by simp, by simpa using h⟩
    | false =>
      rw [hp] at h
      obtain ⟨j, h1, h2, h3⟩ := findR_some p x rs (k + 1) h
      exact ⟨j + 1, by rw [if_neg (by decide), h1]; omega, by simpa using h2, by simpa using h3⟩
theorem recFind_bad {rs : List Rec} {name : ByteArray} {k : Int} (hb : bookB rs = true) (h : recOk rs name k = false) : recFind rs name k = none := by
  unfold recOk at h
  rw [hb, Bool.true_and] at h
  unfold recFind
  rw [List.find?_eq_none]
  intro r hr
  unfold isRec
  cases hn : nameB name with
  | false => rw [book_name hb hn r hr]; simp
  | true =>
    rw [hn, Bool.true_and] at h
    by_cases e : r.sys = k
    · have hg : bookG none rs = true := by unfold bookB at hb; simp only [Bool.and_eq_true] at hb; exact hb.2
      have h3 := bookG_all rs none hg r hr
      unfold recOkB at h3
      rw [e, h] at h3
      simp at h3
    · simp [e]
set_option maxRecDepth 100000 in
set_option maxHeartbeats 3200000 in
theorem s_RecordOf (rs : List Rec) (v : Value) (name : ByteArray) (n : Int) (w : World) (h : Rd_RecordS w v rs) (b : Bd_RecordS rs) (_ : I64_RecordS rs) (hn : name.size ≤ 1048576) (_ : I64 n) :
    Calls Try.prog 14 #[v, .string name, .int .i64 n] w (RetX w (.tuple #[aggR (recOfR rs name n), .bool (recOfB rs name n)])) := by
  have HN := hd hn
  clear hn
  have HH := hd (h.ext (Ext.new w (.cells #[.string .empty, .int .i64 0, .int .i64 0, .int .i64 0] 25)))
  have hl := b.1
  clear b
  obtain ⟨A, c, rfl, h1, h2, ha⟩ := h.form
  clear h
  obtain ⟨q, hq⟩ : ∃ q, (bookB rs && nameB name) = q := ⟨_, rfl⟩
  have HQ := hd hq
  clear hq
  obtain ⟨t, ht⟩ : ∃ t, inB n 1 4 = t := ⟨_, rfl⟩
  have HT := hd ht
  clear ht
  have HB1 := hd (blk_new (w := w) (.cells #[.string .empty, .int .i64 0, .int .i64 0, .int .i64 0] 25) rfl)
  have HX0 := hd (Ext.new w (.cells #[.string .empty, .int .i64 0, .int .i64 0, .int .i64 0] 25))
  have HG0 := hd (Nat.le_refl w.heap.size)
  have HRO : Hid (recOfB rs name n = false → aggR (recOfR rs name n) = aggR zeroR) := hd fun e => by
    unfold recOfB at e
    unfold recOfR
    cases hb : bookB rs with
    | false => rfl
    | true =>
      rw [hb, Bool.true_and] at e
      cases hf : recFind rs name n with
      | none => rfl
      | some r => rw [hf] at e; exact absurd e (by simp)
  go_enter Try.func14, Try.ntmps14
  by_cases hqt : (q && t) = true
  · simp only [Bool.and_eq_true] at hqt
    obtain ⟨rfl, rfl⟩ := hqt
    go_wp2_with (first | (go_at_call 54; refine (rtx (s_l31Takes rs _ name _ HH.out hl (Nat.le_trans HN.out (by omega))) HQ).mono ?_; rintro e w1 ⟨rfl, hx⟩) | (go_at_call 55; (with_reducible refine (rt (s_l31System _ _) HT).mono ?_); rintro e w2 ⟨rfl, rfl⟩))
    have HG := hd (hx.heap HB1.out)
    have HX := hd (HX0.out.trans hx)
    clear hx
    have HBK : Hid (bookB rs = true) := hd (by have := HQ.out; simp only [Bool.and_eq_true] at this; exact this.1)
    go_loopw [8] (fun i wr => ∃ k : Nat, k ≤ rs.length ∧ i = .int .i64 k ∧ Hid (recFind rs name n = (rs.drop k).find? (isRec name n)) ∧ wr = w1) (fun i _ => rs.length - (intOf i).toNat)
    case atStart => exact ⟨0, by omega, rfl, hd rfl, rfl⟩
    case round =>
      obtain ⟨k, hk, rfl, HR, rfl⟩ := hrel
      obtain ⟨g0, g1, g2, g3⟩ := blk4 HG.out
      obtain ⟨p0, p1, p2, p3⟩ := blk4f HG.out
      by_cases hlt : k < rs.length
      · obtain ⟨a, rfl, d0, d1, d2, d3⟩ := RdRec.at_ ha hlt
        have c0 := HX.out.cell d0
        have c1 := HX.out.cell d1
        have c2 := HX.out.cell d2
        have c3 := HX.out.cell d3
        rw [drop_cons hlt] at HR
        clear d0 d1 d2 d3
        generalize rs[k] = r at *
        obtain ⟨m, hm⟩ : ∃ m, (r.name.toList == name.toList) = m := ⟨_, rfl⟩
        have HM := hd hm
        cases m
        · go_wp2
          go_roundw
          case rel => exact ⟨k + 1, by omega, by go_num, hd (by rw [HR.out, List.find?_cons]; unfold isRec; rw [HM.out]; rfl), by first | trivial | rfl⟩
          case measure => simp [intOf]; omega
        · by_cases hs : r.sys = n
          · have HF : Hid (recFind rs name n = some r) := hd (by rw [HR.out, List.find?_cons, show isRec name n r = true from by unfold isRec; rw [HM.out, hs]; simp])
            go_wp2
            refine bodyPost_ret (v := .tuple #[aggR r, .bool true]) (by simp [results, Try.results14, go_sem, g0, g1, g2, g3, aggR, hs]) rfl (RetX.mk (by unfold recOfR recOfB; rw [HBK.out, HF.out]; rfl) ?_)
            exact Below.setCell (p := ⟨w.heap.size, 3, none⟩) (Below.setCell (p := ⟨w.heap.size, 2, none⟩) (Below.setCell (p := ⟨w.heap.size, 1, none⟩) (Below.setCell (p := ⟨w.heap.size, 0, none⟩) HX.out HG0.out _) HG0.out _) HG0.out _) HG0.out _
          · go_wp2
            go_roundw
            case rel => exact ⟨k + 1, by omega, by go_num, hd (by rw [HR.out, List.find?_cons, show isRec name n r = false from by unfold isRec; rw [HM.out]; simp [hs]]), by first | trivial | rfl⟩
            case measure => simp [intOf]; omega
      · have HD : Hid (recOfB rs name n = false) := hd (by unfold recOfB; rw [HR.out, List.drop_eq_nil_of_le (by omega)]; simp)
        go_wp2
        refine bodyPost_ret (v := .tuple #[aggR zeroR, .bool false]) (by simp [results, Try.results14, go_sem, g0, g1, g2, g3, aggR, zeroR]; rfl) rfl (RetX.mk (by rw [HRO.out HD.out, HD.out]) ?_)
        exact Below.setCell (p := ⟨w.heap.size, 3, none⟩) (Below.setCell (p := ⟨w.heap.size, 2, none⟩) (Below.setCell (p := ⟨w.heap.size, 1, none⟩) (Below.setCell (p := ⟨w.heap.size, 0, none⟩) HX.out HG0.out _) HG0.out _) HG0.out _) HG0.out _
  · have HD : Hid (recOfB rs name n = false) := hd (by
      unfold recOfB
      cases hb : bookB rs with
      | false => rfl
      | true =>
        rw [recFind_bad hb (by unfold recOk; rw [HQ.out, HT.out]; simpa using hqt)]; rfl)
    cases q
    · go_wp2_with (first | (go_at_call 54; refine (rtx (s_l31Takes rs _ name _ HH.out hl (Nat.le_trans HN.out (by omega))) HQ).mono ?_; rintro e w1 ⟨rfl, hx⟩; obtain ⟨g0, g1, g2, g3⟩ := blk4 (hx.heap HB1.out); obtain ⟨p0, p1, p2, p3⟩ := blk4f (hx.heap HB1.out)) | (go_at_call 55; (with_reducible refine (rt (s_l31System _ _) HT).mono ?_); rintro e w2 ⟨rfl, rfl⟩))
      refine bodyPost_ret (v := .tuple #[aggR zeroR, .bool false]) (by simp [results, Try.results14, go_sem, g0, g1, g2, g3, aggR, zeroR]; rfl) rfl (RetX.mk (by rw [HRO.out HD.out, HD.out]) ?_)
      exact Below.setCell (p := ⟨w.heap.size, 3, none⟩) (Below.setCell (p := ⟨w.heap.size, 2, none⟩) (Below.setCell (p := ⟨w.heap.size, 1, none⟩) (Below.setCell (p := ⟨w.heap.size, 0, none⟩) (HX0.out.trans hx) HG0.out _) HG0.out _) HG0.out _) HG0.out _
    · cases t
      · go_wp2_with (first | (go_at_call 54; refine (rtx (s_l31Takes rs _ name _ HH.out hl (Nat.le_trans HN.out (by omega))) HQ).mono ?_; rintro e w1 ⟨rfl, hx⟩; obtain ⟨g0, g1, g2, g3⟩ := blk4 (hx.heap HB1.out); obtain ⟨p0, p1, p2, p3⟩ := blk4f (hx.heap HB1.out)) | (go_at_call 55; (with_reducible refine (rt (s_l31System _ _) HT).mono ?_); rintro e w2 ⟨rfl, rfl⟩))
        refine bodyPost_ret (v := .tuple #[aggR zeroR, .bool false]) (by simp [results, Try.results14, go_sem, g0, g1, g2, g3, aggR, zeroR]; rfl) rfl (RetX.mk (by rw [HRO.out HD.out, HD.out]) ?_)
        exact Below.setCell (p := ⟨w.heap.size, 3, none⟩) (Below.setCell (p := ⟨w.heap.size, 2, none⟩) (Below.setCell (p := ⟨w.heap.size, 1, none⟩) (Below.setCell (p := ⟨w.heap.size, 0, none⟩) (HX0.out.trans hx) HG0.out _) HG0.out _) HG0.out _) HG0.out _
      · exact absurd rfl hqt
set_option maxRecDepth 100000 in
set_option maxHeartbeats 3200000 in
theorem i_RecordOf (rs : List Rec) (v : Value) (name : ByteArray) (n : Int) (w : World) (h : Rd_RecordS w v rs) (b : Bd_RecordS rs) (_ : I64_RecordS rs) (_ : name.size ≤ 1048576) (_ : I64 n) :
    Calls Try.prog 16 #[v, .string name, .int .i64 n] w (RetX w (.tuple #[aggR (recOfR rs name n), .bool (recOfB rs name n)])) := by
  have HH := hd h
  have hl := b.1
  clear b
  obtain ⟨A, c, rfl, h1, h2, ha⟩ := h.form
  have HA := hd h.1
  clear h
  have HX0 : Hid (Ext w (((w.alloc (.cells #[.string name] 9)).alloc (.cells #[.int .i64 n] 3)).alloc (.cells #[.string .empty, .int .i64 0, .int .i64 0, .int .i64 0] 25))) := hd (((Ext.new _ _).alloc _).alloc _)
  have HB3 : Hid ((((w.alloc (.cells #[.string name] 9)).alloc (.cells #[.int .i64 n] 3)).alloc (.cells #[.string .empty, .int .i64 0, .int .i64 0, .int .i64 0] 25)).heap[w.heap.size + 1 + 1]? = some (.cells #[.string .empty, .int .i64 0, .int .i64 0, .int .i64 0] 25)) := hd (blk_new _ (by simp))
  have HG0 : Hid (w.heap.size ≤ w.heap.size + 1 + 1) := hd (by omega)
  have e4 : (((w.alloc (.cells #[.string name] 9)).alloc (.cells #[.int .i64 n] 3)).alloc (.cells #[.string .empty, .int .i64 0, .int .i64 0, .int .i64 0] 25)).cell? ⟨w.heap.size, 0, none⟩ = some (.string name) := by simp [go_sem]
  have e5 : (((w.alloc (.cells #[.string name] 9)).alloc (.cells #[.int .i64 n] 3)).alloc (.cells #[.string .empty, .int .i64 0, .int .i64 0, .int .i64 0] 25)).cell? ⟨w.heap.size + 1, 0, none⟩ = some (.int .i64 n) := by simp [go_sem]
  have ANS : Hid (AnsR 58 #[.pointer (some ⟨w.heap.size, 0, none⟩), .pointer (some ⟨w.heap.size + 1, 0, none⟩)] (isRec name n) rs (((w.alloc (.cells #[.string name] 9)).alloc (.cells #[.int .i64 n] 3)).alloc (.cells #[.string .empty, .int .i64 0, .int .i64 0, .int .i64 0] 25))) := hd fun x _ w' hw => c_RecordOf1 x name n _ _ w' (hw.cell e4) (hw.cell e5)
  clear e4 e5
  have HRO : Hid (recOfB rs name n = false → aggR (recOfR rs name n) = aggR zeroR) := hd fun e => by
    unfold recOfB at e
    unfold recOfR
    cases hb : bookB rs with
    | false => rfl
    | true =>
      rw [hb, Bool.true_and] at e
      cases hf : recFind rs name n with
      | none => rfl
      | some r => rw [hf] at e; exact absurd e (by simp)
  obtain ⟨q, hq⟩ : ∃ q, bookB rs = q := ⟨_, rfl⟩
  have HQ := hd hq
  clear hq
  obtain ⟨f, hf⟩ : ∃ f, recFind rs name n = f := ⟨_, rfl⟩
  have HF := hd hf
  clear hf
  go_enter Try.func16, Try.ntmps16
  cases q
  · have HD : Hid (recOfB rs name n = false) := hd (by unfold recOfB; rw [HQ.out]; rfl)
    obtain ⟨m, hm⟩ : ∃ m, findR (isRec name n) rs 0 = m := ⟨_, rfl⟩
    have HV : Hid (Value.int .i64 (findR (isRec name n) rs 0) = .int .i64 m) := hd (by rw [hm])
    clear hm
    go_wp2_with (first | (go_at_call 57; refine (rvx (slices_IndexFuncR rs _ _ _ (isRec name n) _ (HA.out.ext HX0.out) hl enters_RecordOf1 ANS) HV).mono ?_; rintro e w1 ⟨rfl, hx1⟩) | (go_at_call 59; refine (rtx (i_IsBook rs _ _ (HH.out.ext (HX0.out.trans hx1)) hl) HQ).mono ?_; rintro e w2 ⟨rfl, hx2⟩; obtain ⟨g0, g1, g2, g3⟩ := blk4 (hx2.heap (hx1.heap HB3.out)); obtain ⟨p0, p1, p2, p3⟩ := blk4f (hx2.heap (hx1.heap HB3.out))))
    refine bodyPost_ret (v := .tuple #[aggR zeroR, .bool false]) (by simp [results, Try.results16, go_sem, g0, g1, g2, g3, aggR, zeroR]; rfl) rfl (RetX.mk (by rw [HRO.out HD.out, HD.out]) ?_)
    exact Below.setCell (p := ⟨w.heap.size + 1 + 1, 3, none⟩) (Below.setCell (p := ⟨w.heap.size + 1 + 1, 2, none⟩) (Below.setCell (p := ⟨w.heap.size + 1 + 1, 1, none⟩) (Below.setCell (p := ⟨w.heap.size + 1 + 1, 0, none⟩) ((HX0.out.trans hx1).trans hx2) HG0.out _) HG0.out _) HG0.out _) HG0.out _
  · cases f with
    | none =>
      have HD : Hid (recOfB rs name n = false) := hd (by unfold recOfB; rw [HF.out]; simp)
      have HV : Hid (Value.int .i64 (findR (isRec name n) rs 0) = .int .i64 (-1)) := hd (by rw [findR_none _ rs 0 HF.out])
      go_wp2_with (first | (go_at_call 57; refine (rvx (slices_IndexFuncR rs _ _ _ (isRec name n) _ (HA.out.ext HX0.out) hl enters_RecordOf1 ANS) HV).mono ?_; rintro e w1 ⟨rfl, hx1⟩) | (go_at_call 59; refine (rtx (i_IsBook rs _ _ (HH.out.ext (HX0.out.trans hx1)) hl) HQ).mono ?_; rintro e w2 ⟨rfl, hx2⟩; obtain ⟨g0, g1, g2, g3⟩ := blk4 (hx2.heap (hx1.heap HB3.out)); obtain ⟨p0, p1, p2, p3⟩ := blk4f (hx2.heap (hx1.heap HB3.out))))
      refine bodyPost_ret (v := .tuple #[aggR zeroR, .bool false]) (by simp [results, Try.results16, go_sem, g0, g1, g2, g3, aggR, zeroR]; rfl) rfl (RetX.mk (by rw [HRO.out HD.out, HD.out]) ?_)
      exact Below.setCell (p := ⟨w.heap.size + 1 + 1, 3, none⟩) (Below.setCell (p := ⟨w.heap.size + 1 + 1, 2, none⟩) (Below.setCell (p := ⟨w.heap.size + 1 + 1, 1, none⟩) (Below.setCell (p := ⟨w.heap.size + 1 + 1, 0, none⟩) ((HX0.out.trans hx1).trans hx2) HG0.out _) HG0.out _) HG0.out _) HG0.out _
    | some r =>
      obtain ⟨j, hj1, hj2, hj3⟩ := findR_some _ r rs 0 HF.out
      have HV : Hid (Value.int .i64 (findR (isRec name n) rs 0) = .int .i64 (j : Int)) := hd (by rw [hj1, Int.zero_add])
      clear hj1
      have hjr : rs[j] = r := by rw [List.getElem?_eq_getElem hj2] at hj3; injection hj3
      clear hj3
      obtain ⟨a, rfl, d0, d1, d2, d3⟩ := RdRec.at_ ha hj2
      rw [hjr] at d0 d1 d2 d3
      clear hjr
      have HC := hd (And.intro d0 (And.intro d1 (And.intro d2 d3)))
      clear d0 d1 d2 d3
      have hj0 : (0 : Int) ≤ (j : Int) := by omega
      have hj5 : (j : Int) < (rs.length : Int) := by omega
      go_wp2_with (first | (go_at_call 57; refine (rvx (slices_IndexFuncR rs _ _ _ (isRec name n) _ (HA.out.ext HX0.out) hl enters_RecordOf1 ANS) HV).mono ?_; rintro e w1 ⟨rfl, hx1⟩) | (go_at_call 59; refine (rtx (i_IsBook rs _ _ (HH.out.ext (HX0.out.trans hx1)) hl) HQ).mono ?_; rintro e w2 ⟨rfl, hx2⟩; obtain ⟨g0, g1, g2, g3⟩ := blk4 (hx2.heap (hx1.heap HB3.out)); obtain ⟨p0, p1, p2, p3⟩ := blk4f (hx2.heap (hx1.heap HB3.out)); have HX2 := hd ((HX0.out.trans hx1).trans hx2); have c0 := HX2.out.cell HC.out.1; have c1 := HX2.out.cell HC.out.2.1; have c2 := HX2.out.cell HC.out.2.2.1; have c3 := HX2.out.cell HC.out.2.2.2))
      refine bodyPost_ret (v := .tuple #[aggR r, .bool true]) (by simp [results, Try.results16, go_sem, g0, g1, g2, g3, aggR]) rfl (RetX.mk (by unfold recOfR recOfB; rw [HQ.out, HF.out]; rfl) ?_)
      exact Below.setCell (p := ⟨w.heap.size + 1 + 1, 3, none⟩) (Below.setCell (p := ⟨w.heap.size + 1 + 1, 2, none⟩) (Below.setCell (p := ⟨w.heap.size + 1 + 1, 1, none⟩) (Below.setCell (p := ⟨w.heap.size + 1 + 1, 0, none⟩) ((HX0.out.trans hx1).trans hx2) HG0.out _) HG0.out _) HG0.out _) HG0.out _
end Go.Proofs.Ytpljmlkinjhigaa
