/-
  FnExactRecordOf: the walk: for all arguments the law returns true. No condition.
-/
import Derived.Test.YtpljmlkinjhigaaLaw
import Derived.Test.YtpljmlkinjhigaaFrame
import Derived.Test.YtpljmlkinjhigaaRec
import Derived.Test.YtpljmlkinjhigaaFrameR
import Derived.Test.YtpljmlkinjhigaaRecOf
namespace Go.Proofs.Ytpljmlkinjhigaa
open Go.RowKit
set_option maxRecDepth 100000 in
set_option maxHeartbeats 3200000 in
theorem w_FnExactRecordOf (w : World) (rs : List Rec) (vrs : Value) (hrs : Rd_RecordS w vrs rs) (hirs : I64_RecordS rs) (s : ByteArray) (hs : s.size ≤ 9223372036854775807) (n : Int) (hn : I64 n) :
    Calls Try.prog 3 #[vrs, .string s, .int .i64 n] w (RetT w) := by
  have HIrs := hd hirs; clear hirs
  have HIn := hd hn; clear hn
  have HArs := hd hrs
  obtain ⟨Ars, crs, rfl, h1rs, h2rs, -⟩ := hrs.form; unfold maxLen at h2rs
  clear hrs
  have hbz0 := sz_RecordS_bd rs 1048576 (by omega)
  generalize hz : sz_RecordS rs 1048576 = z0 at *
  have Hz0 := hd hz; clear hz
  have X := hd (Ext.refl w)
  obtain ⟨R, hR⟩ : ∃ R, recOfR rs s n = R := ⟨_, rfl⟩
  obtain ⟨B, hB⟩ : ∃ B, recOfB rs s n = B := ⟨_, rfl⟩
  have HV : Hid (Value.tuple #[aggR (recOfR rs s n), .bool (recOfB rs s n)] = .tuple #[.agg #[.string R.name, .int .i64 R.sys, .int .i64 R.size, .int .i64 R.extra], .bool B]) := hd (by rw [hR, hB]; rfl)
  clear hR hB
  go_enter Try.func3, Try.ntmps3
  by_cases hbigs : 1048576 < s.size
  · go_wp2
    go_ret
    exact RetT.mk rfl X.out
  ·
    have bs := hd (Nat.le_of_not_lt hbigs)
    go_wp2_with fail
    refine (u_sz_RecordS rs _ _ _ (HArs.out.ext X.out) (by omega) (by omega)).mono ?_
    rintro e w1 ⟨rfl, hx⟩
    rw [Hz0.out]
    have szw1 := hx.size
    replace X := hd (X.out.trans hx)
    clear hx
    by_cases hneg0 : z0 < 0
    · go_wp2
      go_ret
      exact RetT.mk rfl X.out
    ·
      have brs : Hid (Bd_RecordS rs) := hd (sz_RecordS_ok (by rw [Hz0.out]; exact hneg0) (by omega))
      go_wp2_with fail
      refine (u_to_RecordS rs _ _ (HArs.out.ext X.out) brs.out).mono ?_
      rintro e w2 ⟨u, rfl, hu, hx⟩
      replace X := hd (X.out.trans hx)
      have O3 := hd hu
      clear hx hu
      go_wp2_with fail
      refine (rvx (s_RecordOf rs _ s n _ O3.out.rd brs.out HIrs.out bs.out HIn.out) HV).mono ?_
      rintro e w4 ⟨rfl, hx⟩
      replace X := hd (X.out.trans hx)
      clear hx O3
      have B8 := hd (blk_new (w := w4) (.cells #[.string R.name, .int .i64 R.sys, .int .i64 R.size, .int .i64 R.extra] 25) rfl)
      replace X := hd (X.out.alloc (.cells #[.string R.name, .int .i64 R.sys, .int .i64 R.size, .int .i64 R.extra] 25))
      go_wp2_with fail
      refine (u_to_RecordS rs _ _ (HArs.out.ext X.out) brs.out).mono ?_
      rintro e w5 ⟨u, rfl, hu, hx⟩
      replace X := hd (X.out.trans hx)
      replace B8 := hd (hx.heap B8.out)
      have O6 := hd hu
      clear hx hu
      go_wp2_with fail
      refine (rvx (i_RecordOf rs _ s n _ O6.out.rd brs.out HIrs.out bs.out HIn.out) HV).mono ?_
      rintro e w7 ⟨rfl, hx⟩
      replace X := hd (X.out.trans hx)
      replace O6 := hd (O6.out.ext hx)
      replace B8 := hd (hx.heap B8.out)
      clear hx
      have B9 := hd (blk_new (w := w7) (.cells #[.string R.name, .int .i64 R.sys, .int .i64 R.size, .int .i64 R.extra] 25) rfl)
      replace B8 := hd (blk_old (o' := (.cells #[.string R.name, .int .i64 R.sys, .int .i64 R.size, .int .i64 R.extra] 25)) B8.out)
      replace O6 := hd (O6.out.ext (Ext.new w7 (.cells #[.string R.name, .int .i64 R.sys, .int .i64 R.size, .int .i64 R.extra] 25)))
      replace X := hd (X.out.alloc (.cells #[.string R.name, .int .i64 R.sys, .int .i64 R.size, .int .i64 R.extra] 25))
      obtain ⟨c0, c1, c2, c3⟩ := blk4 B8.out
      obtain ⟨d0, d1, d2, d3⟩ := blk4 B9.out
      go_wp2_with fail
      refine (l_eqRecord R _).mono ?_
      rintro e w8 ⟨rfl, hx⟩
      replace X := hd (X.out.trans hx)
      replace O6 := hd (O6.out.ext hx)
      clear hx c0 c1 c2 c3 d0 d1 d2 d3
      go_wp2_with fail
      refine (u_to_RecordS rs _ _ (HArs.out.ext X.out) brs.out).mono ?_
      rintro e w9 ⟨u, rfl, hu, hx⟩
      replace X := hd (X.out.trans hx)
      replace O6 := hd (O6.out.ext hx)
      have O9 := hd hu
      clear hx hu
      go_wp2_with fail
      refine (u_eq_RecordS rs _ _ _ O6.out.rd O9.out.rd brs.out).mono ?_
      rintro e w10 ⟨rfl, hx⟩
      replace X := hd (X.out.trans hx)
      clear hx
      go_wp2
      go_ret
      exact RetT.mk rfl X.out
end Go.Proofs.Ytpljmlkinjhigaa
