/-
  FnExactSmallestSystem: the walk: for all arguments the law returns true. No condition.
-/
import Derived.Test.YtegaablidoibdaaLaw
import Derived.Test.YtegaablidoibdaaFrame
import Derived.Test.YtegaablidoibdaaRec
import Derived.Test.YtegaablidoibdaaFrameR
import Derived.Test.YtegaablidoibdaaSmall
namespace Go.Proofs.Ytegaablidoibdaa
open Go.RowKit
set_option maxRecDepth 100000 in
set_option maxHeartbeats 3200000 in
theorem w_FnExactSmallestSystem (w : World) (rs : List Rec) (vrs : Value) (hrs : Rd_RecordS w vrs rs) (hirs : I64_RecordS rs) (s : ByteArray) (hs : s.size ≤ 9223372036854775807) :
    Calls Try.prog 14 #[vrs, .string s] w (RetT w) := by
  have HIrs := hd hirs; clear hirs
  have HArs := hd hrs
  obtain ⟨Ars, crs, rfl, h1rs, h2rs, -⟩ := hrs.form; unfold maxLen at h2rs
  clear hrs
  have hbz0 := sz_RecordS_bd rs 1048576 (by omega)
  generalize hz : sz_RecordS rs 1048576 = z0 at *
  have Hz0 := hd hz; clear hz
  have X := hd (Ext.refl w)
  go_enter Try.func14, Try.ntmps14
  by_cases hbigs : 1048576 < s.size
  · go_wp2
    go_ret
    exact RetT.mk rfl X.out
  ·
    have bs := hd (Nat.le_of_not_lt hbigs)
    go_wp2_with fail
    refine (u_sz_RecordS rs _ _ _ (HArs.out.ext X.out) (by omega) (by omega)).mono ?_
    rintro e w1 ⟨rfl, hx⟩
    rw [Hz0.out]
    have szw1 := hx.size
    replace X := hd (X.out.trans hx)
    clear hx
    by_cases hneg0 : z0 < 0
    · go_wp2
      go_ret
      exact RetT.mk rfl X.out
    ·
      have brs : Hid (Bd_RecordS rs) := hd (sz_RecordS_ok (by rw [Hz0.out]; exact hneg0) (by omega))
      go_wp2_with fail
      refine (u_to_RecordS rs _ _ (HArs.out.ext X.out) brs.out).mono ?_
      rintro e w2 ⟨u, rfl, hu, hx⟩
      have szw2 := hx.size
      replace X := hd (X.out.trans hx)
      have O3 := hd hu
      clear hx hu
      go_wp2_with fail
      refine (s_SmallestSystem rs _ s _ O3.out.rd brs.out HIrs.out bs.out).mono ?_
      rintro e w4 ⟨rfl, hx⟩
      have szw4 := hx.size
      replace X := hd (X.out.trans hx)
      replace O3 := hd (O3.out.ext hx)
      clear hx
      clear O3
      go_wp2_with fail
      refine (u_to_RecordS rs _ _ (HArs.out.ext X.out) brs.out).mono ?_
      rintro e w5 ⟨u, rfl, hu, hx⟩
      have szw5 := hx.size
      replace X := hd (X.out.trans hx)
      have O6 := hd hu
      clear hx hu
      go_wp2_with fail
      refine (i_SmallestSystem rs _ s _ O6.out.rd brs.out HIrs.out bs.out).mono ?_
      rintro e w7 ⟨rfl, hx⟩
      have szw7 := hx.size
      replace X := hd (X.out.trans hx)
      replace O6 := hd (O6.out.ext hx)
      clear hx
      go_wp2_with fail
      refine (u_to_RecordS rs _ _ (HArs.out.ext X.out) brs.out).mono ?_
      rintro e w8 ⟨u, rfl, hu, hx⟩
      have szw8 := hx.size
      replace X := hd (X.out.trans hx)
      replace O6 := hd (O6.out.ext hx)
      have O9 := hd hu
      clear hx hu
      go_wp2_with fail
      refine (u_eq_RecordS rs _ _ _ O6.out.rd O9.out.rd brs.out).mono ?_
      rintro e w10 ⟨rfl, hx⟩
      have szw10 := hx.size
      replace X := hd (X.out.trans hx)
      replace O6 := hd (O6.out.ext hx)
      replace O9 := hd (O9.out.ext hx)
      clear hx
      go_wp2
      go_ret
      exact RetT.mk rfl X.out
end Go.Proofs.Ytegaablidoibdaa
