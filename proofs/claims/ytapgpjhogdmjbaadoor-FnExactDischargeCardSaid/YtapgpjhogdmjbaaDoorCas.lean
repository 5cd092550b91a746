/-
  Cases of schemes: both sides. Conditions: formulas up to 1000 letters.
-/
import Derived.Test.YtapgpjhogdmjbaaDoorCasP
import Derived.Test.YtapgpjhogdmjbaaDoorFmJ
import Derived.Test.YtapgpjhogdmjbaaDoorGrow
import Derived.Test.YtapgpjhogdmjbaaDoorPair
import Derived.IntWalk
namespace Go.Proofs.YtapgpjhogdmjbaaDoor
open Go.RowKit
theorem take_byte {s : ByteArray} {k : Nat} (h : k < s.size) : s.data.toList.take (k + 1) = s.data.toList.take k ++ [s[k]] := by
  have hk : k < s.data.toList.length := by rw [len_list]; exact h
  rw [List.take_succ_eq_append_getElem hk]; rfl
theorem subC_len {x y z : List UInt8} {M : Nat} (hx : x.length ≤ M) (hy : y.length ≤ M) (hz : z.length ≤ M) (h1 : 1 ≤ M) (c : UInt8) : (subC x y z c).length ≤ M := by
  unfold subC
  split
  · exact hx
  · split
    · exact hy
    · split
      · exact hz
      · exact h1
/-- The schemes as values. -/
def schV : List Value := (List.range 10).map fun j => .string (schS (j + 1))
theorem schV_at {j : Nat} (h : j < 10) : schV[j]? = some (.string (schS (j + 1))) := by
  simp [schV, h]
set_option maxRecDepth 100000 in
theorem s_l24Schemes (w : World) : Calls Tryd.prog 43 #[] w (fun e w' => ∃ u, e = .returned u ∧ Rd w' 1 u 10 schV ∧ Ext w w') := by
  go_enter Tryd.func43, Tryd.ntmps43
  go_wp2
  go_ret
  exact ⟨_, rfl, rd_blk (s := 1) (blk_new _ rfl) (by kernel_rfl) rfl (by unfold maxLen; omega), Ext.new _ _⟩
set_option maxRecDepth 100000 in
set_option maxHeartbeats 3200000 in
theorem s_l24Case (j : Nat) (hj : j < 10) (a b c : ByteArray) (ha : a.size ≤ 1000) (hb : b.size ≤ 1000) (hc : c.size ≤ 1000) (w : World) :
    Calls Tryd.prog 35 #[.int .i64 ((j : Int) + 1), .string a, .string b, .string c] w (RetX w (.string ⟨(caseL (j + 1) a.data.toList b.data.toList c.data.toList).toArray⟩)) := by
  have hsz : (schS (j + 1)).size ≤ 40 := by unfold schS; rw [strF_size]; exact (schT_ok (j + 1)).2.2.1
  have HL : Hid ((schS (j + 1)).data.toList = txt (schT (j + 1))) := hd (strF_list _)
  have HV := hd (schV_at hj)
  have HC : Hid (caseL (j + 1) a.data.toList b.data.toList c.data.toList = subB a.data.toList b.data.toList c.data.toList (schS (j + 1)).data.toList) := hd (by unfold caseL; rw [HL.out])
  have hwr : IntKind.i64.wrap ((j : Int) + 1 - 1) = (j : Int) := by rw [show (j : Int) + 1 - 1 = (j : Int) from by omega]; exact IntWalk.i64_in _ (by omega)
  have HLN : Hid (∀ ch, (subC a.data.toList b.data.toList c.data.toList ch).length ≤ 1000) := hd (subC_len (by simpa using ha) (by simpa using hb) (by simpa using hc) (by omega))
  generalize schS (j + 1) = s0 at *
  have hj0 : (0 : Int) ≤ (j : Int) := by omega
  have hj1 : (j : Int) < 10 := by omega
  clear HL
  go_enter Tryd.func35, Tryd.ntmps35
  go_wp2_with fail
  refine (s_l24Schemes w).mono ?_
  rintro e w1 ⟨u, rfl, hu, hx⟩
  obtain ⟨_, A, cc, rfl, _, _, hcell⟩ := hu
  obtain ⟨ad, rfl, hc0⟩ := hcell j _ HV.out
  have HX := hd hx
  clear hcell hx HV
  go_wp2
  clear hc0 hwr
  go_loopw [11, 10] (fun i o wr => ∃ (k : Nat) (t : ByteArray), k ≤ s0.size ∧ i = .int .i64 (k : Int) ∧ o = .string t ∧ Hid (t.data.toList = subB a.data.toList b.data.toList c.data.toList (s0.data.toList.take k)) ∧ t.size ≤ k * 1000 ∧ w1 = wr) (fun i _ _ => s0.size - (intOf i).toNat)
  case atStart => exact ⟨0, ⟨#[]⟩, by omega, rfl, rfl, hd rfl, Nat.le_refl _, by first | rfl | trivial⟩
  case round =>
    obtain ⟨k, t, hk, rfl, rfl, HT, hts, rfl⟩ := hrel
    by_cases hlt : k < s0.size
    · have HTK := hd (take_byte hlt)
      obtain ⟨ch, hch⟩ : ∃ ch, s0[k] = ch := ⟨_, rfl⟩
      rw [hch] at HTK
      have HS : Hid (subB a.data.toList b.data.toList c.data.toList (s0.data.toList.take (k + 1)) = t.data.toList ++ subC a.data.toList b.data.toList c.data.toList ch) := hd (by rw [HTK.out, subB_app, subB_one, HT.out])
      have q1 : ¬ 9223372036854775807 < t.size + a.size := by omega
      have q2 : ¬ 9223372036854775807 < t.size + b.size := by omega
      have q3 : ¬ 9223372036854775807 < t.size + c.size := by omega
      have hex : (s0.extract k (k + 1)).data.toList = [ch] := by
        rw [extract_list, take_byte hlt, hch, List.drop_append_of_le_length (by rw [List.length_take, len_list]; omega), List.drop_of_length_le (by rw [List.length_take, len_list]; omega)]; rfl
      have hexs : (s0.extract k (k + 1)).size = 1 := by rw [← len_list, hex]; rfl
      have HEX := hd hex
      have q4 : ¬ 9223372036854775807 < t.size + (s0.extract k (k + 1)).size := by omega
      clear hex HTK
      by_cases h1 : ch.toNat = 97
      · have HF : Hid (subC a.data.toList b.data.toList c.data.toList ch = a.data.toList) := hd (by rw [u8_eq h1]; rfl)
        rw [← hch] at h1
        clear hch
        go_wp2
        go_roundw
        case rel => exact ⟨k + 1, t ++ a, by omega, by go_num, rfl, hd (by rw [HS.out, HF.out]; simp), by simp; omega, by first | rfl | trivial⟩
        case measure => simp [intOf]; omega
      · by_cases h2 : ch.toNat = 98
        · have HF : Hid (subC a.data.toList b.data.toList c.data.toList ch = b.data.toList) := hd (by rw [u8_eq h2]; rfl)
          rw [← hch] at h2
          clear hch
          go_wp2
          go_roundw
          case rel => exact ⟨k + 1, t ++ b, by omega, by go_num, rfl, hd (by rw [HS.out, HF.out]; simp), by simp; omega, by first | rfl | trivial⟩
          case measure => simp [intOf]; omega
        · by_cases h3 : ch.toNat = 99
          · have HF : Hid (subC a.data.toList b.data.toList c.data.toList ch = c.data.toList) := hd (by rw [u8_eq h3]; rfl)
            rw [← hch] at h3
            clear hch
            go_wp2
            go_roundw
            case rel => exact ⟨k + 1, t ++ c, by omega, by go_num, rfl, hd (by rw [HS.out, HF.out]; simp), by simp; omega, by first | rfl | trivial⟩
            case measure => simp [intOf]; omega
          · have HF : Hid (subC a.data.toList b.data.toList c.data.toList ch = [ch]) := hd (by
              unfold subC
              rw [if_neg (fun e => h1 (by rw [e]; rfl)), if_neg (fun e => h2 (by rw [e]; rfl)), if_neg (fun e => h3 (by rw [e]; rfl))])
            have g1 : ((s0[k].toNat : Int) == 97) = false := by rw [hch]; simp; omega
            have g2 : ((s0[k].toNat : Int) == 98) = false := by rw [hch]; simp; omega
            have g3 : ((s0[k].toNat : Int) == 99) = false := by rw [hch]; simp; omega
            clear hch h1 h2 h3
            go_wp2
            go_roundw
            case rel => exact ⟨k + 1, t ++ s0.extract k (k + 1), by omega, by go_num, rfl, hd (by rw [HS.out, HF.out, ← HEX.out]; simp), by rw [ByteArray.size_append]; omega, by first | rfl | trivial⟩
            case measure => simp [intOf]; omega
    · have HTK : Hid (s0.data.toList.take k = s0.data.toList) := hd (List.take_of_length_le (by rw [len_list]; omega))
      go_wp2
      go_ret
      exact RetX.mk (by rw [HC.out, ← HTK.out, ← HT.out]; rfl) HX.out
/-- What the program's table of schemes holds. -/
def GlobS (w : World) : Prop := ∀ j, j < 10 → w.cell? ⟨0, j, none⟩ = some (.string (schS (j + 1)))
theorem GlobS.ext {w w' : World} (h : GlobS w) (he : Ext w w') : GlobS w' := fun j hj => he.cell (h j hj)
theorem abc_let {c : UInt8} (h : (c == 97 || c == 98 || c == 99 || c == 48 || c == 49) = true) : c = 97 ∨ c = 98 ∨ c = 99 ∨ c = 48 ∨ c = 49 := by simpa [or_assoc] using h
abbrev PutC (x y z : Fm) (px py pz : Option Addr) (f : Fm) : Prop := ∀ (v : Value) (w : World), RdF 66 w f v →
    (occF 97 f = true → RdF 66 w x (.pointer px)) → (occF 98 f = true → RdF 66 w y (.pointer py)) → (occF 99 f = true → RdF 66 w z (.pointer pz)) → Calls Tryd.prog 40 #[v, .agg #[.pointer px, .pointer py, .pointer pz]] w (RetF w (putF x y z f))
set_option maxHeartbeats 1600000 in
theorem put_leaf (x y z : Fm) (px py pz : Option Addr) (c : UInt8) (ha : abcF (.leaf c) = true) : PutC x y z px py pz (.leaf c) := by
  intro v w h h97 h98 h99
  obtain ⟨b, rfl, hb⟩ := h
  have hb2 := (Ext.new w (.cells #[.pointer px, .pointer py, .pointer pz] 69)).heap hb
  have HB := hd hb
  rcases abc_let ha with rfl | rfl | rfl | rfl | rfl
  · obtain ⟨k0, k1, k2, k3⟩ := blk4F hb2
    have HX := hd (h97 rfl)
    have HL : Hid (∀ w, Calls Tryd.prog 48 #[.int .u8 97] w (Ret w (.bool true))) := hd (i_isLetter 97)
    clear hb hb2 h97 h98 h99
    go_enter Tryd.func40, Tryd.ntmps40
    go_wp2_with fail
    refine (HL.out _).mono ?_
    rintro e w1 ⟨rfl, rfl⟩
    go_wp2
    go_ret
    exact ⟨_, rfl, HX.out.ext (Ext.new _ _), Ext.new _ _⟩
  · obtain ⟨k0, k1, k2, k3⟩ := blk4F hb2
    have HX := hd (h98 rfl)
    have HL : Hid (∀ w, Calls Tryd.prog 48 #[.int .u8 98] w (Ret w (.bool true))) := hd (i_isLetter 98)
    clear hb hb2 h97 h98 h99
    go_enter Tryd.func40, Tryd.ntmps40
    go_wp2_with fail
    refine (HL.out _).mono ?_
    rintro e w1 ⟨rfl, rfl⟩
    go_wp2
    go_ret
    exact ⟨_, rfl, HX.out.ext (Ext.new _ _), Ext.new _ _⟩
  · obtain ⟨k0, k1, k2, k3⟩ := blk4F hb2
    have HX := hd (h99 rfl)
    have HL : Hid (∀ w, Calls Tryd.prog 48 #[.int .u8 99] w (Ret w (.bool true))) := hd (i_isLetter 99)
    clear hb hb2 h97 h98 h99
    go_enter Tryd.func40, Tryd.ntmps40
    go_wp2_with fail
    refine (HL.out _).mono ?_
    rintro e w1 ⟨rfl, rfl⟩
    go_wp2
    go_ret
    exact ⟨_, rfl, HX.out.ext (Ext.new _ _), Ext.new _ _⟩
  · obtain ⟨k0, k1, k2, k3⟩ := blk4F hb2
    have HL : Hid (∀ w, Calls Tryd.prog 48 #[.int .u8 48] w (Ret w (.bool false))) := hd (i_isLetter 48)
    have HR : Hid (RdF 66 w (putF x y z (.leaf 48)) (.pointer (some ⟨b, 0, none⟩))) := hd ⟨b, rfl, hb⟩
    clear hb hb2 h97 h98 h99
    go_enter Tryd.func40, Tryd.ntmps40
    go_wp2_with fail
    refine (HL.out _).mono ?_
    rintro e w1 ⟨rfl, rfl⟩
    go_wp2
    go_ret
    exact ⟨_, rfl, HR.out.ext (Ext.new _ _), Ext.new _ _⟩
  · obtain ⟨k0, k1, k2, k3⟩ := blk4F hb2
    have HL : Hid (∀ w, Calls Tryd.prog 48 #[.int .u8 49] w (Ret w (.bool false))) := hd (i_isLetter 49)
    have HR : Hid (RdF 66 w (putF x y z (.leaf 49)) (.pointer (some ⟨b, 0, none⟩))) := hd ⟨b, rfl, hb⟩
    clear hb hb2 h97 h98 h99
    go_enter Tryd.func40, Tryd.ntmps40
    go_wp2_with fail
    refine (HL.out _).mono ?_
    rintro e w1 ⟨rfl, rfl⟩
    go_wp2
    go_ret
    exact ⟨_, rfl, HR.out.ext (Ext.new _ _), Ext.new _ _⟩
set_option maxHeartbeats 3200000 in
theorem put_neg (x y z : Fm) (px py pz : Option Addr) (a : Fm) (hl : (txt (putF x y z a)).length ≤ 1048576) (HREC : Hid (PutC x y z px py pz a)) : PutC x y z px py pz (.neg a) := by
  intro v w h h97 h98 h99
  obtain ⟨b, va, rfl, hb, ha⟩ := h
  obtain ⟨ba, _, _, rfl, hba⟩ := ha.head
  obtain ⟨wb, hwb⟩ : ∃ wb, wb = w.alloc (.cells #[.pointer px, .pointer py, .pointer pz] 69) := ⟨_, rfl⟩
  have hx0 : Ext w (w.alloc (.cells #[.pointer px, .pointer py, .pointer pz] 69)) := Ext.new _ _
  obtain ⟨k0, k1, k2, k3⟩ := blk4F (hx0.heap hb)
  have HA : Hid (∀ w', Ext (w.alloc (.cells #[.pointer px, .pointer py, .pointer pz] 69)) w' → Calls Tryd.prog 40 #[.pointer (some ⟨ba, 0, none⟩), .agg #[.pointer px, .pointer py, .pointer pz]] w' (RetF w' (putF x y z a))) := hd fun w' hx =>
    HREC.out _ w' (ha.ext (hx0.trans hx)) (fun e => (h97 e).ext (hx0.trans hx)) (fun e => (h98 e).ext (hx0.trans hx)) (fun e => (h99 e).ext (hx0.trans hx))
  have HL : Hid (∀ w, Calls Tryd.prog 48 #[.int .u8 126] w (Ret w (.bool false))) := hd (i_isLetter 126)
  clear hwb wb hb ha hba h97 h98 h99 hx0
  go_enter Tryd.func40, Tryd.ntmps40
  go_wp2_with fail
  refine (HL.out _).mono ?_
  rintro e w1 ⟨rfl, rfl⟩
  go_wp2_with fail
  go_region_law (first
    | (go_simp; go_at_call 40; (with_reducible refine (HA.out _ (Ext.drew (Ext.refl _))).mono ?_); rintro e w2 ⟨u2, rfl, hu2, hx2⟩)
    | (go_simp; go_at_call 50; (with_reducible refine (i_not _ _ _ hu2 hl).mono ?_); rintro e w3 ⟨u3, rfl, hu3, hx3⟩))
  all_goals
    go_wp2
    go_ret
    exact ⟨_, rfl, hu3, ((Ext.new w _).drew.trans hx2).trans hx3⟩
set_option maxHeartbeats 6400000 in
theorem put_bin (x y z : Fm) (px py pz : Option Addr) (o : UInt8) (ho : isOp o = true) (p q : Fm) (hl : (txt (putF x y z p)).length ≤ 1048576) (hl2 : (txt (putF x y z q)).length ≤ 1048576) (HRECP : Hid (PutC x y z px py pz p)) (HRECQ : Hid (PutC x y z px py pz q)) : PutC x y z px py pz (.bin o p q) := by
  intro v w h h97 h98 h99
  obtain ⟨b, va, vb, rfl, hb, ha, hbq⟩ := h
  obtain ⟨ba, _, _, rfl, hba⟩ := ha.head
  obtain ⟨bb, _, _, rfl, hbb⟩ := hbq.head
  have hx0 : Ext w (w.alloc (.cells #[.pointer px, .pointer py, .pointer pz] 69)) := Ext.new _ _
  obtain ⟨k0, k1, k2, k3⟩ := blk4F (hx0.heap hb)
  have HP : Hid (∀ w', Ext (w.alloc (.cells #[.pointer px, .pointer py, .pointer pz] 69)) w' → Calls Tryd.prog 40 #[.pointer (some ⟨ba, 0, none⟩), .agg #[.pointer px, .pointer py, .pointer pz]] w' (RetF w' (putF x y z p))) := hd fun w' hx =>
    HRECP.out _ w' (ha.ext (hx0.trans hx)) (fun e => (h97 (by simp [occF, e])).ext (hx0.trans hx)) (fun e => (h98 (by simp [occF, e])).ext (hx0.trans hx)) (fun e => (h99 (by simp [occF, e])).ext (hx0.trans hx))
  have HQ : Hid (∀ w', Ext (w.alloc (.cells #[.pointer px, .pointer py, .pointer pz] 69)) w' → Calls Tryd.prog 40 #[.pointer (some ⟨bb, 0, none⟩), .agg #[.pointer px, .pointer py, .pointer pz]] w' (RetF w' (putF x y z q))) := hd fun w' hx =>
    HRECQ.out _ w' (hbq.ext (hx0.trans hx)) (fun e => (h97 (by simp [occF, e])).ext (hx0.trans hx)) (fun e => (h98 (by simp [occF, e])).ext (hx0.trans hx)) (fun e => (h99 (by simp [occF, e])).ext (hx0.trans hx))
  have hlet : letB o = false := by
    rcases op_cases o with ⟨_, h | h | h⟩ | ⟨h, _⟩
    · exact letB_no h (by omega)
    · exact letB_no h (by omega)
    · exact letB_no h (by omega)
    · rw [ho] at h; cases h
  have HL : Hid (∀ w, Calls Tryd.prog 48 #[.int .u8 o.toNat] w (Ret w (.bool false))) := hd fun w => by have := i_isLetter o w; rw [hlet] at this; exact this
  have hnew := heap_alloc_new w (.cells #[.pointer px, .pointer py, .pointer pz] 69)
  have b0 : (w.alloc (.cells #[.pointer px, .pointer py, .pointer pz] 69)).cell? ⟨w.heap.size, 0, none⟩ = some (.pointer px) := World.news_of_block hnew 0 _ rfl
  have b1 : (w.alloc (.cells #[.pointer px, .pointer py, .pointer pz] 69)).cell? ⟨w.heap.size, 1, none⟩ = some (.pointer py) := World.news_of_block hnew 1 _ rfl
  have b2 : (w.alloc (.cells #[.pointer px, .pointer py, .pointer pz] 69)).cell? ⟨w.heap.size, 2, none⟩ = some (.pointer pz) := World.news_of_block hnew 2 _ rfl
  clear hb ha hbq hba hbb h97 h98 h99 hlet hnew
  go_enter Tryd.func40, Tryd.ntmps40
  go_wp2_with fail
  refine (HL.out _).mono ?_
  rintro e w1 ⟨rfl, rfl⟩
  go_wp2_with fail
  go_region_held3 (fun w' => (w'.cell? ⟨b, 0, none⟩ = some (.int .u8 o.toNat) ∧ w'.cell? ⟨b, 1, none⟩ = some (.pointer (some ⟨ba, 0, none⟩)) ∧ w'.cell? ⟨b, 2, none⟩ = some (.pointer (some ⟨bb, 0, none⟩)) ∧ w'.cell? ⟨w.heap.size, 0, none⟩ = some (.pointer px) ∧ w'.cell? ⟨w.heap.size, 1, none⟩ = some (.pointer py) ∧ w'.cell? ⟨w.heap.size, 2, none⟩ = some (.pointer pz)) ∧ Ext (w.alloc (.cells #[.pointer px, .pointer py, .pointer pz] 69)) w')
    ((refine ⟨⟨Ext.cell ?_ k0, Ext.cell ?_ k1, Ext.cell ?_ k2, Ext.cell ?_ b0, Ext.cell ?_ b1, Ext.cell ?_ b2⟩, ?_⟩ <;> (first | exact (Ext.refl _).drew | exact (Ext.refl _).drew.trans hxa | exact (Ext.refl _).drew.trans hxb | exact ((Ext.refl _).drew.trans hxa).trans hxb | exact ((Ext.refl _).drew.trans hxb).trans hxa | exact (((Ext.refl _).drew.trans hxa).trans hxb).trans hxj | exact (((Ext.refl _).drew.trans hxb).trans hxa).trans hxj)))
    (first
      | (go_at_call 40; (with_reducible refine (HP.out _ ?_).mono ?_); (first | exact (Ext.refl _).drew | exact (Ext.refl _).drew.trans hxb); rintro e wa ⟨ua, rfl, hua, hxa⟩)
      | (go_at_call 40; (with_reducible refine (HQ.out _ ?_).mono ?_); (first | exact (Ext.refl _).drew | exact (Ext.refl _).drew.trans hxa); rintro e wb ⟨ub, rfl, hub, hxb⟩)
      | (go_at_call 28; (with_reducible refine (i_join o ho _ _ _ _ _ ?_ ?_ hl hl2).mono ?_); (first | exact hua | exact hua.ext hxb); (first | exact hub | exact hub.ext hxa); rintro e wj ⟨uj, rfl, huj, hxj⟩))
  all_goals
    rename_i hH
    go_wp2
    go_ret
    exact ⟨_, rfl, huj, (Ext.new w _).trans hH.2⟩
theorem i_put (x y z : Fm) (px py pz : Option Addr) (hx : (txt x).length ≤ 1000) (hy : (txt y).length ≤ 1000) (hz : (txt z).length ≤ 1000) : ∀ (f : Fm), WfF f = true → abcF f = true → (txt f).length ≤ 40 → PutC x y z px py pz f
  | .leaf c, _, ha, _ => put_leaf x y z px py pz c ha
  | .neg a, hw, ha, hl => by
    have hla : (txt a).length ≤ 40 := by simp [txt] at hl; omega
    have hpl := putF_len hx hy hz (by omega) a
    exact put_neg x y z px py pz a (by omega) (hd (i_put x y z px py pz hx hy hz a hw ha hla))
  | .bin o a b, hw, ha, hl => by
    have hw' : (isOp o && (WfF a && WfF b)) = true := hw
    have ha' : (abcF a && abcF b) = true := ha
    rw [Bool.and_eq_true, Bool.and_eq_true] at hw'
    rw [Bool.and_eq_true] at ha'
    have e2 : (txt (.bin o a b)).length = (txt a).length + (txt b).length + 3 := by simp [txt]; omega
    have h1 := putF_len hx hy hz (by omega) a
    have h2 := putF_len hx hy hz (by omega) b
    exact put_bin x y z px py pz o hw'.1 a b (by omega) (by omega) (hd (i_put x y z px py pz hx hy hz a hw'.2.1 ha'.1 (by omega))) (hd (i_put x y z px py pz hx hy hz b hw'.2.2 ha'.2 (by omega)))
end Go.Proofs.YtapgpjhogdmjbaaDoor
