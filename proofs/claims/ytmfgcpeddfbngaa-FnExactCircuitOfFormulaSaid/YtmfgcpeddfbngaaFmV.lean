/-
  The value of a formula for bits, both sides. Condition: bits below 64, texts up to 2^20.
-/
import Derived.Test.YtmfgcpeddfbngaaFmQ
import Derived.Test.YtmfgcpeddfbngaaFmJ
import Derived.Test.YtmfgcpeddfbngaaNum
namespace Go.Proofs.Ytmfgcpeddfbngaa
open Go.RowKit
theorem valF_leaf {b : Nat} {c : UInt8} (h1 : c.toNat ≠ 48) (h2 : c.toNat ≠ 49) : valF b (.leaf c) = (bitN b (c.toNat - 97) == 1) := by
  unfold valF
  rw [if_neg (fun h => h1 (by rw [h]; rfl)), if_neg (fun h => h2 (by rw [h]; rfl))]
  rfl
theorem txt_kids {a b : Fm} {o : UInt8} {n : Nat} (h : (txt (.bin o a b)).length ≤ n) : (txt a).length ≤ n ∧ (txt b).length ≤ n := by
  simp [txt] at h; omega
theorem txt_kid {a : Fm} {n : Nat} (h : (txt (.neg a)).length ≤ n) : (txt a).length ≤ n := by
  simp [txt] at h; omega
theorem wf_bin {a b : Fm} {o : UInt8} (h : WfF (.bin o a b) = true) : isOp o = true ∧ WfF a = true ∧ WfF b = true := by
  have h : (isOp o && (WfF a && WfF b)) = true := h
  simpa [Bool.and_eq_true] using h
theorem bool_int (z : Nat) : ((z : Int) == 1) = (z == 1) := by rw [Bool.eq_iff_iff]; simp; omega
set_option maxRecDepth 100000 in
set_option maxHeartbeats 1600000 in
theorem sv_leaf (c : UInt8) (b : Nat) (hb : b < 64) (hw : WfF (.leaf c) = true) (w : World) : Calls Try.prog 88 #[.string (strF (.leaf c)), .int .i64 b] w (RetQ w (.bool (valF b (.leaf c)))) := by
  have HP := hd (s_l22Parts (.leaf c) hw (by simp [txt]))
  have hw' : isLf c = true := hw
  rcases byte_cases c with ⟨_, hc | hc | ⟨hc1, hc2⟩⟩ | hc | hc | ⟨h, _⟩
  · have HV : Hid (valF b (.leaf c) = false) := hd (by rw [show c = 48 from u8_eq hc]; rfl)
    generalize strF (.leaf c) = s at *
    have ho : (opF (.leaf c)).toNat = 48 := hc
    clear hw hw'
    go_enter Try.func88, Try.ntmps88
    go_wp2_with fail
    refine (HP.out _).mono ?_
    rintro e w1 ⟨rfl, n, rfl⟩
    go_wp2
    go_ret
    exact RetQ.mkN (by rw [HV.out]; rfl)
  · have HV : Hid (valF b (.leaf c) = true) := hd (by rw [show c = 49 from u8_eq hc]; rfl)
    generalize strF (.leaf c) = s at *
    have ho : (opF (.leaf c)).toNat = 49 := hc
    clear hw hw'
    go_enter Try.func88, Try.ntmps88
    go_wp2_with fail
    refine (HP.out _).mono ?_
    rintro e w1 ⟨rfl, n, rfl⟩
    go_wp2
    go_ret
    exact RetQ.mkN (by rw [HV.out]; rfl)
  · obtain ⟨j, hj⟩ : ∃ j, c.toNat = 97 + j := ⟨c.toNat - 97, by omega⟩
    have hj5 : j ≤ 5 := by omega
    have HV : Hid (valF b (.leaf c) = ((bitN b j : Int) == 1)) := hd (by rw [valF_leaf (by omega) (by omega), hj, Nat.add_sub_cancel_left, bool_int])
    have HO : Hid ((opF (.leaf c)).toNat = 97 + j) := hd hj
    generalize (opF (.leaf c)).toNat = z at *
    have g1 : ((z : Int) == 48) = false := by have := HO.out; simp; omega
    have g2 : ((z : Int) == 49) = false := by have := HO.out; simp; omega
    have g3 : ((z : Int) == 126) = false := by have := HO.out; simp; omega
    have g4 : ((z : Int) == 38) = false := by have := HO.out; simp; omega
    have g5 : ((z : Int) == 124) = false := by have := HO.out; simp; omega
    have g6 : ((z : Int) == 62) = false := by have := HO.out; simp; omega
    have g7 : IntKind.u8.wrap ((z : Int) - 97) = (j : Int) := by
      rw [HO.out]
      simp [IntKind.wrap, IntKind.bits, IntKind.signed]
      omega
    have g8 := shr_and (b := b) (k := j) (by omega)
    generalize strF (.leaf c) = s at *
    clear hw hw' hc1 hc2 hj
    go_enter Try.func88, Try.ntmps88
    go_wp2_with fail
    refine (HP.out _).mono ?_
    rintro e w1 ⟨rfl, n, rfl⟩
    go_wp2
    go_ret
    exact RetQ.mkN (by rw [HV.out]; rfl)
  · rw [u8_eq hc] at hw'; exact absurd hw' (by decide)
  · rw [u8_eq hc] at hw'; exact absurd hw' (by decide)
  · rw [h] at hw'; cases hw'
set_option maxRecDepth 100000 in
set_option maxHeartbeats 3200000 in
theorem s_l22Value (b : Nat) (hb : b < 64) : ∀ (f : Fm), WfF f = true → (txt f).length ≤ 1048576 → ∀ w, Calls Try.prog 88 #[.string (strF f), .int .i64 b] w (RetQ w (.bool (valF b f)))
  | .leaf c, hw, _, w => sv_leaf c b hb hw w
  | .neg a, hw, hl, w => by
    have HP := hd (s_l22Parts (.neg a) hw hl)
    have HA := hd (s_l22Value b hb a hw (txt_kid hl))
    have HV : Hid (valF b (.neg a) = !valF b a) := hd rfl
    generalize valF b a = q at *
    generalize valF b (.neg a) = q' at *
    have ho : (opF (.neg a)).toNat = 126 := rfl
    have hk : kidA (.neg a) = strF a := rfl
    generalize strF (.neg a) = s at *
    clear hw hl
    go_enter Try.func88, Try.ntmps88
    go_wp2_with fail
    refine (HP.out _).mono ?_
    rintro e w1 ⟨rfl, n, rfl⟩
    go_wp2_with fail
    refine (HA.out _).mono ?_
    rintro e w1 ⟨rfl, n2, rfl⟩
    go_wp2
    go_ret
    exact RetQ.mkN (by rw [HV.out]; rfl)
  | .bin o x y, hw, hl, w => by
    obtain ⟨ho, hx, hy⟩ := wf_bin hw
    have HP := hd (s_l22Parts (.bin o x y) hw hl)
    have HA := hd (s_l22Value b hb x hx (txt_kids hl).1)
    have HB := hd (s_l22Value b hb y hy (txt_kids hl).2)
    have hk : kidA (.bin o x y) = strF x := rfl
    have hk2 : kidB (.bin o x y) = strF y := rfl
    have HV : Hid (valF b (.bin o x y) = if o = 38 then valF b x && valF b y else if o = 124 then valF b x || valF b y else !valF b x || valF b y) := hd rfl
    generalize valF b x = q at *
    generalize valF b y = r at *
    generalize valF b (.bin o x y) = q' at *
    generalize strF (.bin o x y) = s at *
    clear hw hl hx hy
    rcases op_cases o with ⟨_, h | h | h⟩ | ⟨h', _⟩
    case inr => rw [h'] at ho; cases ho
    · have hof : (opF (.bin o x y)).toNat = 38 := h
      rw [if_pos (show o = 38 from u8_eq h)] at HV
      clear ho h
      cases q
      · go_enter Try.func88, Try.ntmps88
        go_wp2_with fail
        refine (HP.out _).mono ?_
        rintro e w1 ⟨rfl, n, rfl⟩
        go_wp2_with fail
        refine (HA.out _).mono ?_
        rintro e w1 ⟨rfl, n2, rfl⟩
        go_wp2
        go_ret
        exact RetQ.mkN (by rw [HV.out]; rfl)
      · go_enter Try.func88, Try.ntmps88
        go_wp2_with fail
        refine (HP.out _).mono ?_
        rintro e w1 ⟨rfl, n, rfl⟩
        go_wp2_with fail
        refine (HA.out _).mono ?_
        rintro e w1 ⟨rfl, n2, rfl⟩
        go_wp2_with fail
        refine (HB.out _).mono ?_
        rintro e w1 ⟨rfl, n3, rfl⟩
        go_wp2
        go_ret
        exact RetQ.mkN (by rw [HV.out]; rfl)
    · have hof : (opF (.bin o x y)).toNat = 124 := h
      rw [if_neg (by rw [show o = 124 from u8_eq h]; decide), if_pos (show o = 124 from u8_eq h)] at HV
      clear ho h
      cases q
      · go_enter Try.func88, Try.ntmps88
        go_wp2_with fail
        refine (HP.out _).mono ?_
        rintro e w1 ⟨rfl, n, rfl⟩
        go_wp2_with fail
        refine (HA.out _).mono ?_
        rintro e w1 ⟨rfl, n2, rfl⟩
        go_wp2_with fail
        refine (HB.out _).mono ?_
        rintro e w1 ⟨rfl, n3, rfl⟩
        go_wp2
        go_ret
        exact RetQ.mkN (by rw [HV.out]; rfl)
      · go_enter Try.func88, Try.ntmps88
        go_wp2_with fail
        refine (HP.out _).mono ?_
        rintro e w1 ⟨rfl, n, rfl⟩
        go_wp2_with fail
        refine (HA.out _).mono ?_
        rintro e w1 ⟨rfl, n2, rfl⟩
        go_wp2
        go_ret
        exact RetQ.mkN (by rw [HV.out]; rfl)
    · have hof : (opF (.bin o x y)).toNat = 62 := h
      rw [if_neg (by rw [show o = 62 from u8_eq h]; decide), if_neg (by rw [show o = 62 from u8_eq h]; decide)] at HV
      clear ho h
      cases q
      · go_enter Try.func88, Try.ntmps88
        go_wp2_with fail
        refine (HP.out _).mono ?_
        rintro e w1 ⟨rfl, n, rfl⟩
        go_wp2_with fail
        refine (HA.out _).mono ?_
        rintro e w1 ⟨rfl, n2, rfl⟩
        go_wp2
        go_ret
        exact RetQ.mkN (by rw [HV.out]; rfl)
      · go_enter Try.func88, Try.ntmps88
        go_wp2_with fail
        refine (HP.out _).mono ?_
        rintro e w1 ⟨rfl, n, rfl⟩
        go_wp2_with fail
        refine (HA.out _).mono ?_
        rintro e w1 ⟨rfl, n2, rfl⟩
        go_wp2_with fail
        refine (HB.out _).mono ?_
        rintro e w1 ⟨rfl, n3, rfl⟩
        go_wp2
        go_ret
        exact RetQ.mkN (by rw [HV.out]; rfl)
set_option maxRecDepth 100000 in
set_option maxHeartbeats 1600000 in
theorem iv_leaf (c : UInt8) (b : Nat) (hb : b < 64) (hw : WfF (.leaf c) = true) (v : Value) (w : World) (h : RdF 53 w (.leaf c) v) : Calls Try.prog 125 #[v, .int .i64 b] w (Ret w (.bool (valF b (.leaf c)))) := by
  obtain ⟨bl, rfl, hbl⟩ := h
  obtain ⟨k0, k1, k2, k3⟩ := blk4F hbl
  have hw' : isLf c = true := hw
  rcases byte_cases c with ⟨_, hc | hc | ⟨hc1, hc2⟩⟩ | hc | hc | ⟨h, _⟩
  · have HV : Hid (valF b (.leaf c) = false) := hd (by rw [show c = 48 from u8_eq hc]; rfl)
    rw [hc] at k0
    clear hw hw' hc
    go_enter Try.func125, Try.ntmps125
    go_wp2
    go_ret
    exact Ret.mk (by rw [HV.out]; rfl)
  · have HV : Hid (valF b (.leaf c) = true) := hd (by rw [show c = 49 from u8_eq hc]; rfl)
    rw [hc] at k0
    clear hw hw' hc
    go_enter Try.func125, Try.ntmps125
    go_wp2
    go_ret
    exact Ret.mk (by rw [HV.out]; rfl)
  · obtain ⟨j, hj⟩ : ∃ j, c.toNat = 97 + j := ⟨c.toNat - 97, by omega⟩
    have hj5 : j ≤ 5 := by omega
    have HV : Hid (valF b (.leaf c) = ((bitN b j : Int) == 1)) := hd (by rw [valF_leaf (by omega) (by omega), hj, Nat.add_sub_cancel_left, bool_int])
    have HO := hd hj
    generalize c.toNat = z at *
    have g1 : ((z : Int) == 48) = false := by have := HO.out; simp; omega
    have g2 : ((z : Int) == 49) = false := by have := HO.out; simp; omega
    have g3 : ((z : Int) == 126) = false := by have := HO.out; simp; omega
    have g4 : ((z : Int) == 38) = false := by have := HO.out; simp; omega
    have g5 : ((z : Int) == 124) = false := by have := HO.out; simp; omega
    have g6 : ((z : Int) == 62) = false := by have := HO.out; simp; omega
    have g7 : IntKind.u8.wrap ((z : Int) - 97) = (j : Int) := by
      rw [HO.out]
      simp [IntKind.wrap, IntKind.bits, IntKind.signed]
      omega
    have g8 := shr_and (b := b) (k := j) (by omega)
    clear hw hw' hc1 hc2 hj
    go_enter Try.func125, Try.ntmps125
    go_wp2
    go_ret
    exact Ret.mk (by rw [HV.out]; rfl)
  · rw [u8_eq hc] at hw'; exact absurd hw' (by decide)
  · rw [u8_eq hc] at hw'; exact absurd hw' (by decide)
  · rw [h] at hw'; cases hw'
set_option maxRecDepth 100000 in
set_option maxHeartbeats 3200000 in
theorem i_value (b : Nat) (hb : b < 64) (w : World) : ∀ (f : Fm), WfF f = true → ∀ v, RdF 53 w f v → Calls Try.prog 125 #[v, .int .i64 b] w (Ret w (.bool (valF b f)))
  | .leaf c, hw, v, h => iv_leaf c b hb hw v w h
  | .neg a, hw, v, h => by
    obtain ⟨bl, va, rfl, hbl, hva⟩ := h
    obtain ⟨k0, k1, k2, k3⟩ := blk4F hbl
    have HA := hd (i_value b hb w a hw va hva)
    have HV : Hid (valF b (.neg a) = !valF b a) := hd rfl
    generalize valF b a = q at *
    generalize valF b (.neg a) = q' at *
    clear hw hva
    go_enter Try.func125, Try.ntmps125
    go_wp2_with fail
    refine HA.out.mono ?_
    rintro e w1 ⟨rfl, rfl⟩
    go_wp2
    go_ret
    exact Ret.mk (by rw [HV.out]; rfl)
  | .bin o x y, hw, v, h => by
    obtain ⟨ho, hx, hy⟩ := wf_bin hw
    obtain ⟨bl, vx, vy, rfl, hbl, hvx, hvy⟩ := h
    obtain ⟨k0, k1, k2, k3⟩ := blk4F hbl
    have HA := hd (i_value b hb w x hx vx hvx)
    have HB := hd (i_value b hb w y hy vy hvy)
    have HV : Hid (valF b (.bin o x y) = if o = 38 then valF b x && valF b y else if o = 124 then valF b x || valF b y else !valF b x || valF b y) := hd rfl
    generalize valF b x = q at *
    generalize valF b y = r at *
    generalize valF b (.bin o x y) = q' at *
    clear hw hx hy hvx hvy
    rcases op_cases o with ⟨_, h | h | h⟩ | ⟨h', _⟩
    case inr => rw [h'] at ho; cases ho
    · rw [h] at k0
      rw [if_pos (show o = 38 from u8_eq h)] at HV
      clear ho h
      cases q
      · go_enter Try.func125, Try.ntmps125
        go_wp2_with fail
        refine HA.out.mono ?_
        rintro e w1 ⟨rfl, rfl⟩
        go_wp2
        go_ret
        exact Ret.mk (by rw [HV.out]; rfl)
      · go_enter Try.func125, Try.ntmps125
        go_wp2_with fail
        refine HA.out.mono ?_
        rintro e w1 ⟨rfl, rfl⟩
        go_wp2_with fail
        refine HB.out.mono ?_
        rintro e w1 ⟨rfl, rfl⟩
        go_wp2
        go_ret
        exact Ret.mk (by rw [HV.out]; rfl)
    · rw [h] at k0
      rw [if_neg (by rw [show o = 124 from u8_eq h]; decide), if_pos (show o = 124 from u8_eq h)] at HV
      clear ho h
      cases q
      · go_enter Try.func125, Try.ntmps125
        go_wp2_with fail
        refine HA.out.mono ?_
        rintro e w1 ⟨rfl, rfl⟩
        go_wp2_with fail
        refine HB.out.mono ?_
        rintro e w1 ⟨rfl, rfl⟩
        go_wp2
        go_ret
        exact Ret.mk (by rw [HV.out]; rfl)
      · go_enter Try.func125, Try.ntmps125
        go_wp2_with fail
        refine HA.out.mono ?_
        rintro e w1 ⟨rfl, rfl⟩
        go_wp2
        go_ret
        exact Ret.mk (by rw [HV.out]; rfl)
    · rw [h] at k0
      rw [if_neg (by rw [show o = 62 from u8_eq h]; decide), if_neg (by rw [show o = 62 from u8_eq h]; decide)] at HV
      clear ho h
      cases q
      · go_enter Try.func125, Try.ntmps125
        go_wp2_with fail
        refine HA.out.mono ?_
        rintro e w1 ⟨rfl, rfl⟩
        go_wp2
        go_ret
        exact Ret.mk (by rw [HV.out]; rfl)
      · go_enter Try.func125, Try.ntmps125
        go_wp2_with fail
        refine HA.out.mono ?_
        rintro e w1 ⟨rfl, rfl⟩
        go_wp2_with fail
        refine HB.out.mono ?_
        rintro e w1 ⟨rfl, rfl⟩
        go_wp2
        go_ret
        exact Ret.mk (by rw [HV.out]; rfl)
end Go.Proofs.Ytmfgcpeddfbngaa
