/-
  The number of the shared values of bits; when all clauses are true for bits: both sides. Conditions: at most 12 variables.
-/
import Derived.Test.YtjeeffmpfdhppaaSign
import Derived.IntWalk
namespace Go.Proofs.Ytjeeffmpfdhppaa
open Go.RowKit
/-- The number that the first k of some variables make. -/
def numU (vs : List Int) (b : Nat) : Nat → Nat
  | 0 => 0
  | k + 1 => numU vs b k + bitN b (vs.getD k 1 - 1).toNat * 2 ^ k
theorem numU_lt (vs : List Int) (b : Nat) : ∀ k, numU vs b k < 2 ^ k
  | 0 => by simp [numU]
  | k + 1 => by
    have h1 := numU_lt vs b k
    have h2 := bitN_lt b (vs.getD k 1 - 1).toNat
    have h3 : bitN b (vs.getD k 1 - 1).toNat * 2 ^ k ≤ 1 * 2 ^ k := Nat.mul_le_mul_right _ (by omega)
    unfold numU
    rw [Nat.pow_succ]; omega
def numOf (vs : List Int) (b : Nat) : Nat := numU vs b vs.length
def allT (b : Nat) (cs : List (List Int)) : Bool := !anyL (fun c => !trueB b c) cs
theorem allT_cons (b : Nat) (c : List Int) (r : List (List Int)) : allT b (c :: r) = if trueB b c then allT b r else false := by
  unfold allT
  rw [anyL]
  cases trueB b c <;> rfl
theorem or_pow_add {a k t : Nat} (h : a < 2 ^ k) (_ : t < 2) : a ||| t * 2 ^ k = a + t * 2 ^ k := by
  have := Nat.two_pow_add_eq_or_of_lt h t
  rw [Nat.mul_comm t, Nat.or_comm, ← this, Nat.add_comm]
theorem pow12 {k : Nat} (h : k ≤ 12) : 2 ^ k ≤ 4096 := by
  have := Nat.pow_le_pow_right (n := 2) (by decide) h
  simpa using this
theorem shl_bit {t k : Nat} (ht : t < 2) (hk : k ≤ 12) : wrap64 ((t : Int) * 2 ^ k) = ((t * 2 ^ k : Nat) : Int) := by
  have h := pow12 hk
  have e : (t : Int) * 2 ^ k = ((t * 2 ^ k : Nat) : Int) := by simp
  have : t * 2 ^ k ≤ 1 * 2 ^ k := Nat.mul_le_mul_right _ (by omega)
  rw [e]
  generalize (t * 2 ^ k : Nat) = z at *
  unfold wrap64; omega
set_option maxHeartbeats 1600000 in
theorem i_numberOf (f : Cnf) (k : Nat) (vs : List Int) (v : Value) (b : Nat) (w : World) (h : RdSp w v f k vs) (hl : vs.length ≤ 12) (hp : Hid (∀ x ∈ vs, 1 ≤ x ∧ x ≤ 12)) (hb : b < 1000000) :
    Calls Try.prog 64 #[v, .int .i64 b] w (Ret w (.int .i64 ((numOf vs b : Nat) : Int))) := by
  obtain ⟨bl, vc, vv, rfl, hB, -, hS⟩ := h
  obtain ⟨c0, c1, c2, c3⟩ := blk4' hB
  obtain ⟨A, c, rfl, h1, h2, ha⟩ := hS.form
  clear hS hB
  go_enter Try.func64, Try.ntmps64
  go_wp2
  clear c0 c1 c2 c3
  go_loop [13, 5, 6, 7] (fun i n _ _ => ∃ k : Nat, k ≤ vs.length ∧ i = .int .i64 k ∧ n = .int .i64 ((numU vs b k : Nat) : Int)) (fun i _ _ _ => vs.length - (intOf i).toNat)
  case atStart => exact ⟨0, by omega, rfl, rfl⟩
  case round =>
    obtain ⟨k, hk, rfl, rfl⟩ := hrel
    by_cases hlt : k < vs.length
    · obtain ⟨a, rfl, hc⟩ := RdI.at_ ha hlt
      have hy := hp.out _ (List.getElem_mem hlt)
      have hg : vs.getD k 1 = vs[k] := by simp [List.getD, hlt]
      have hlu := numU_lt vs b k
      have hp12 := pow12 (k := k) (by omega)
      obtain ⟨j, hj⟩ : ∃ j : Nat, vs[k] = (j : Int) + 1 := ⟨(vs[k] - 1).toNat, by omega⟩
      have HU : Hid (numU vs b (k + 1) = numU vs b k + bitN b j * 2 ^ k) := hd (by rw [numU, hg, hj, show ((j : Int) + 1 - 1).toNat = j from by omega])
      rw [hj] at hc hy
      clear hg hj
      have hj12 : j < 12 := by omega
      have hwr : IntKind.i64.wrap ((j : Int) + 1 - 1) = (j : Int) := by rw [show (j : Int) + 1 - 1 = (j : Int) from by omega]; exact IntWalk.i64_in _ (by omega)
      have hsh := shr_and (b := b) (k := j) (by omega)
      have hbl := bitN_lt b j
      have hsb := shl_bit (k := k) hbl (by omega)
      have hle : bitN b j * 2 ^ k ≤ 1 * 2 ^ k := Nat.mul_le_mul_right _ (by omega)
      have hor : bits .or .i64 ((numU vs b k : Nat) : Int) ((bitN b j * 2 ^ k : Nat) : Int) = ((numU vs b k + bitN b j * 2 ^ k : Nat) : Int) := by rw [or64 _ _ (by omega) (by omega), or_pow_add hlu hbl]
      generalize bitN b j = t at *
      generalize numU vs b k = z at *
      generalize hm : t * 2 ^ k = m at *
      clear hm
      go_wp2
      go_round
      case rel => exact ⟨k + 1, by omega, by go_num, by rw [HU.out]; go_num⟩
      case measure => simp [intOf]; omega
    · go_wp2
      go_ret
      obtain rfl : k = vs.length := by omega
      exact Ret.mk rfl
/-- The total assignment of bits. -/
def totL (b : Nat) (n : Nat) : List Int := (List.range n).map fun i : Nat => if bitN b i == 1 then (i : Int) + 1 else -((i : Int) + 1)
theorem totL_snoc (b n : Nat) : totL b (n + 1) = totL b n ++ [if bitN b n == 1 then (n : Int) + 1 else -((n : Int) + 1)] := by simp [totL, List.range_succ]
theorem totL_len (b n : Nat) : (totL b n).length = n := by simp [totL]
theorem totL_has {b n : Nat} {l : Int} (h : -(n : Int) ≤ l ∧ l ≤ n ∧ l ≠ 0) : hasI (totL b n) l = litT b l := by
  rw [Bool.eq_iff_iff, hasI_iff]
  unfold totL litT
  rw [List.mem_map]
  constructor
  · rintro ⟨i, hi, rfl⟩
    have hi' := List.mem_range.1 hi
    cases hq : (bitN b i == 1)
    · rw [if_neg (by simp)]
      have e : (absI (-((i : Int) + 1)) - 1).toNat = i := by unfold absI; rw [if_pos (by omega)]; omega
      rw [e, hq, decide_eq_false (by omega)]; rfl
    · rw [if_pos rfl]
      have e : (absI ((i : Int) + 1) - 1).toNat = i := by unfold absI; rw [if_neg (by omega)]; omega
      rw [e, hq, decide_eq_true (by omega)]; rfl
  · intro hq
    refine ⟨(absI l - 1).toNat, List.mem_range.2 (by unfold absI; split <;> omega), ?_⟩
    cases hb : (bitN b (absI l - 1).toNat == 1)
    · rw [hb] at hq
      have hneg : ¬ 0 < l := by simpa using hq
      rw [if_neg (by simp)]
      unfold absI; rw [if_pos (by omega)]; omega
    · rw [hb] at hq
      have hpos : 0 < l := by simpa using hq
      rw [if_pos rfl]
      unfold absI; rw [if_neg (by omega)]; omega
def valG (a : List Int) : Int → List Int → Int
  | v, [] => v
  | v, l :: r => if hasI a l then 1 else valG a (if hasI a (-l) then v else 0) r
theorem valG_lt (a : List Int) : ∀ (c : List Int) (v : Int), v < 1 → decide (valG a v c < 1) = !anyI (hasI a) c
  | [], v, h => by simp [valG, anyI, h]
  | l :: r, v, h => by
    unfold valG anyI
    cases hasI a l
    · simp only [Bool.false_eq_true, if_false]
      exact valG_lt a r _ (by split <;> omega)
    · rfl
theorem valG_bd (a : List Int) : ∀ (c : List Int) (v : Int), -1 ≤ v ∧ v ≤ 0 → -1 ≤ valG a v c ∧ valG a v c ≤ 1
  | [], v, h => by unfold valG; omega
  | l :: r, v, h => by
    unfold valG
    split
    · omega
    · exact valG_bd a r _ (by split <;> omega)
theorem anyI_congr {p q : Int → Bool} : ∀ {l : List Int}, (∀ x ∈ l, p x = q x) → anyI p l = anyI q l
  | [], _ => rfl
  | x :: r, h => by unfold anyI; rw [h x (by simp), anyI_congr fun y hy => h y (by simp [hy])]
/-- A clause's value under the total assignment is less than 1 just if it is false for the bits. -/
theorem val_tot {b n : Nat} {c : List Int} (h : ∀ l ∈ c, -(n : Int) ≤ l ∧ l ≤ n ∧ l ≠ 0) : decide (valG (totL b n) (-1) c < 1) = !trueB b c := by
  rw [valG_lt _ _ _ (by omega), trueB, anyI_congr fun l hl => totL_has (h l hl)]
set_option maxHeartbeats 1600000 in
theorem s_l3Total (n b : Nat) (w : World) (hn : n ≤ 12) (hb : b < 1000000) : Calls Try.prog 153 #[.int .i64 n, .int .i64 b] w (RetI w 3 (totL b n)) := by
  go_enter Try.func153, Try.ntmps153
  go_wp2
  go_loopw [6, 5] (fun i v wr => ∃ k : Nat, k ≤ n ∧ i = .int .i64 ((k : Int) + 1) ∧ OwnI wr w.heap.size 3 v (totL b k) ∧ Ext w wr) (fun i _ _ => n + 1 - (intOf i).toNat)
  case atStart => exact ⟨0, by omega, rfl, ownI_emp' rfl (Nat.le_refl _), Ext.new _ _⟩
  case round =>
    obtain ⟨k, hk, rfl, ho, hx⟩ := hrel
    have HX := hd hx
    have HO := hd ho
    have hlen := totL_len b k
    have hle : (totL b k).length ≤ 1073741824 := by omega
    clear ho hx hlen
    by_cases hlt : k < n
    · have hwr : IntKind.i64.wrap ((k : Int) + 1 - 1) = (k : Int) := by rw [show (k : Int) + 1 - 1 = (k : Int) from by omega]; exact IntWalk.i64_in _ (by omega)
      have hsh := shr_and (b := b) (k := k) (by omega)
      have hbl := bitN_lt b k
      obtain ⟨q, hq⟩ : ∃ q, (bitN b k == 1) = q := ⟨_, rfl⟩
      have hq' : (((bitN b k : Nat) : Int) == 1) = q := by rw [← hq]; exact natcast_beq _ 1
      have HT := hd (totL_snoc b k)
      rw [hq] at HT
      clear hq
      generalize bitN b k = t at *
      cases q
      · go_wp2_with (at_builtin; refine appI wr HO.out rfl _ _ rfl _ (by rfl) (by rfl) hle HX.out.size ?_; intro v' w1 ho1 hg1 _)
        go_roundw
        case rel => exact ⟨k + 1, by omega, by go_num, by rw [HT.out]; exact ho1, ext_app HX.out hg1 (ownI_ge HO.out)⟩
        case measure => simp [intOf]; omega
      · go_wp2_with (at_builtin; refine appI wr HO.out rfl _ _ rfl _ (by rfl) (by rfl) hle HX.out.size ?_; intro v' w1 ho1 hg1 _)
        go_roundw
        case rel => exact ⟨k + 1, by omega, by go_num, by rw [HT.out]; exact ho1, ext_app HX.out hg1 (ownI_ge HO.out)⟩
        case measure => simp [intOf]; omega
    · obtain rfl : k = n := by omega
      go_wp2
      go_ret
      exact ⟨_, rfl, HO.out, HX.out⟩
set_option maxHeartbeats 1600000 in
theorem s_l3Value (c a : List Int) (v av : Value) (w : World) (h : RdI w v c) (h' : RdI w av a) (hl : c.length ≤ 1073741824) (hl' : a.length ≤ 1073741824) (hlit : Hid (∀ l ∈ c, -12 ≤ l ∧ l ≤ 12)) :
    Calls Try.prog 154 #[v, av] w (Ret w (.int .i64 (valG a (-1) c))) := by
  obtain ⟨A, cc, rfl, h1, h2, ha⟩ := h.form
  have HA := hd h'
  clear h h'
  go_enter Try.func154, Try.ntmps154
  go_wp2
  go_loop [6, 5] (fun i x => ∃ (k : Nat) (z : Int), k ≤ c.length ∧ i = .int .i64 k ∧ x = .int .i64 z ∧ Hid (valG a (-1) c = valG a z (c.drop k))) (fun i _ => c.length - (intOf i).toNat)
  case atStart => exact ⟨0, -1, by omega, rfl, rfl, hd rfl⟩
  case round =>
    obtain ⟨k, z, hk, rfl, rfl, HR⟩ := hrel
    by_cases hlt : k < c.length
    · obtain ⟨e1, rfl, hc⟩ := RdI.at_ ha hlt
      have hdc : c.drop k = c[k] :: c.drop (k + 1) := List.drop_eq_getElem_cons hlt
      rw [hdc] at HR
      have hy := hlit.out _ (List.getElem_mem hlt)
      clear hdc
      generalize c[k] = y at *
      obtain ⟨hy1, hy2⟩ := hy
      obtain ⟨p, hp⟩ : ∃ p, hasI a y = p := ⟨_, rfl⟩
      obtain ⟨q, hq⟩ : ∃ q, hasI a (-y) = q := ⟨_, rfl⟩
      have HP := hd hp
      have HQ := hd hq
      clear hp hq
      cases p
      · cases q
        · go_wp2_with fail
          refine (rt (s_l2Has a av y _ HA.out hl') HP).mono ?_
          rintro e w1 ⟨rfl, rfl⟩
          go_wp2_with fail
          refine (rt (s_l2Has a av (-y) _ HA.out hl') HQ).mono ?_
          rintro e w1 ⟨rfl, rfl⟩
          go_wp2
          go_round
          case rel => exact ⟨k + 1, 0, by omega, by go_num, rfl, hd (by rw [HR.out, valG, HP.out, HQ.out]; rfl)⟩
          case measure => simp [intOf]; omega
        · go_wp2_with fail
          refine (rt (s_l2Has a av y _ HA.out hl') HP).mono ?_
          rintro e w1 ⟨rfl, rfl⟩
          go_wp2_with fail
          refine (rt (s_l2Has a av (-y) _ HA.out hl') HQ).mono ?_
          rintro e w1 ⟨rfl, rfl⟩
          go_wp2
          go_round
          case rel => exact ⟨k + 1, z, by omega, by go_num, rfl, hd (by rw [HR.out, valG, HP.out, HQ.out]; rfl)⟩
          case measure => simp [intOf]; omega
      · go_wp2_with fail
        refine (rt (s_l2Has a av y _ HA.out hl') HP).mono ?_
        rintro e w1 ⟨rfl, rfl⟩
        go_wp2
        go_ret
        exact Ret.mk (by rw [HR.out, valG, HP.out]; rfl)
    · go_wp2
      go_ret
      exact Ret.mk (by rw [HR.out, List.drop_eq_nil_of_le (by omega)]; rfl)
set_option maxHeartbeats 1600000 in
theorem s_l29True (cs : List (List Int)) (v : Value) (n b : Nat) (w : World) (h : RdSS w v cs) (hl : cs.length ≤ 1073741824) (hle : Hid (∀ c ∈ cs, c.length ≤ 1073741824)) (hlit : Hid (∀ c ∈ cs, ∀ l ∈ c, -(n : Int) ≤ l ∧ l ≤ n ∧ l ≠ 0)) (hn : n ≤ 12) (hb : b < 1000000) :
    Calls Try.prog 123 #[v, .int .i64 n, .int .i64 b] w (RetX w (.bool (allT b cs))) := by
  obtain ⟨A, c, rfl, h1, h2, ha⟩ := h.form
  clear h
  have htl : (totL b n).length ≤ 1073741824 := by rw [totL_len]; omega
  go_enter Try.func123, Try.ntmps123
  go_wp2_with fail
  refine (s_l3Total n b _ hn hb).mono ?_
  rintro e w1 ⟨u, rfl, hu, hx⟩
  obtain ⟨A1, c1, rfl, -⟩ := hu.form
  have HU := hd hu.rd
  have HX := hd hx
  clear hu hx
  generalize hT : totL b n = T at *
  have HT := hd hT
  clear hT
  go_wp2
  go_loop [8] (fun i => ∃ k : Nat, k ≤ cs.length ∧ i = .int .i64 k ∧ Hid (allT b cs = allT b (cs.drop k))) (fun i => cs.length - (intOf i).toNat)
  case atStart => exact ⟨0, by omega, rfl, hd rfl⟩
  case round =>
    obtain ⟨k, hk, rfl, HR⟩ := hrel
    by_cases hlt : k < cs.length
    · obtain ⟨a, u, rfl, hc0, hr0⟩ := RdSS.at_ ha hlt
      have hc := HX.out.cell hc0
      have HRD := hd (hr0.ext HX.out)
      have hdc : cs.drop k = cs[k] :: cs.drop (k + 1) := List.drop_eq_getElem_cons hlt
      rw [hdc] at HR
      have hxl := hle.out _ (List.getElem_mem hlt)
      have hli := hlit.out _ (List.getElem_mem hlt)
      clear hc0 hr0 hdc
      generalize cs[k] = y at *
      have HLI : Hid (∀ l ∈ y, -12 ≤ l ∧ l ≤ 12) := hd fun l hl => by have := hli l hl; omega
      have hval := val_tot (b := b) hli
      rw [HT.out] at hval
      have hbd := valG_bd T y (-1) (by omega)
      clear hli
      obtain ⟨q, hq⟩ : ∃ q, trueB b y = q := ⟨_, rfl⟩
      have HQ := hd hq
      rw [hq] at hval
      clear hq
      go_wp2_with fail
      refine (s_l3Value y T _ _ _ HRD.out HU.out hxl htl HLI).mono ?_
      rintro e w2 ⟨rfl, rfl⟩
      generalize valG T (-1) y = z at *
      obtain ⟨hbd1, hbd2⟩ := hbd
      cases q
      · have hz : z < 1 := by simpa using hval
        clear hval
        go_wp2
        go_ret
        exact RetX.mk (by rw [HR.out, allT_cons, HQ.out]; rfl) HX.out
      · have hz : ¬ z < 1 := by simpa using hval
        clear hval
        go_wp2
        go_round
        case rel => exact ⟨k + 1, by omega, by go_num, hd (by rw [HR.out, allT_cons, HQ.out]; rfl)⟩
        case measure => simp [intOf]; omega
    · go_wp2
      go_ret
      exact RetX.mk (by rw [HR.out, List.drop_eq_nil_of_le (by omega)]; rfl) HX.out
theorem enters_isModel1 : Enters 157 := fun args w => by kernel_rfl
theorem i_isModel1 (c : List Int) (b : Nat) (u : Value) (a : Addr) (w : World) (h : w.cell? a = some (.int .i64 (b : Int))) (hr : RdI w u c) (hl : c.length ≤ 1073741824) (hlit : Hid (∀ x ∈ c, -12 ≤ x ∧ x ≤ 12 ∧ x ≠ 0)) (hb : b < 1000000) :
    Calls Try.prog 157 #[u, .pointer (some a)] w (RetX w (.bool (!trueB b c))) := by
  have HR := hd hr
  clear hr
  go_enter Try.func157, Try.ntmps157
  go_wp2_with fail
  refine (i_holds b c u _ HR.out hl hlit (by omega)).mono ?_
  rintro e w1 ⟨rfl, hx⟩
  have HX := hd hx
  clear hx
  go_wp2
  go_ret
  exact RetX.mk rfl HX.out
theorem i_isModel (cs : List (List Int)) (v : Value) (b : Nat) (w : World) (h : RdSS w v cs) (hl : cs.length ≤ 1073741824) (hle : Hid (∀ c ∈ cs, c.length ≤ 1073741824)) (hlit : Hid (∀ c ∈ cs, ∀ x ∈ c, -12 ≤ x ∧ x ≤ 12 ∧ x ≠ 0)) (hb : b < 1000000) :
    Calls Try.prog 129 #[v, .int .i64 b] w (RetX w (.bool (allT b cs))) := by
  have HR := hd (h.ext (Ext.new w (.cells #[.int .i64 b] 3)))
  have HA : Hid (AnsS 157 #[.pointer (some ⟨w.heap.size, 0, none⟩)] (fun c => !trueB b c) cs (w.alloc (.cells #[.int .i64 b] 3))) := hd fun c hc u w' hx hr =>
    i_isModel1 c b u _ w' (hx.cell (blk1 (blk_new _ rfl))) hr (hle.out c hc) (hd (hlit.out c hc)) hb
  clear h
  go_enter Try.func129, Try.ntmps129
  go_wp2_with fail
  refine (slices_ContainsFuncS cs v _ _ _ _ HR.out hl enters_isModel1 HA).mono ?_
  rintro e w1 ⟨rfl, hx⟩
  have X := hd ((Ext.new w _).trans hx)
  clear hx
  go_wp2
  go_ret
  exact RetX.mk rfl X.out
end Go.Proofs.Ytjeeffmpfdhppaa
