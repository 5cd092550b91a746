/-
  FnExactClauseWeight: the walk: for all arguments the law returns true. No condition.
-/
import Derived.Test.YtpljmlkinjhigaaLaw
import Derived.Test.YtpljmlkinjhigaaFrame
import Derived.Test.YtpljmlkinjhigaaWeight
namespace Go.Proofs.Ytpljmlkinjhigaa
open Go.RowKit
set_option maxRecDepth 100000 in
set_option maxHeartbeats 3200000 in
theorem w_FnExactClauseWeight (w : World) (n : Int) (hn : I64 n) (c : List Int) (vc : Value) (hc : Rd_IntS w vc c) (hic : I64_IntS c) :
    Calls Try.prog 8 #[.int .i64 n, vc] w (RetT w) := by
  have HIn := hd hn; clear hn
  have HIc := hd hic; clear hic
  have HAc := hd hc
  obtain ⟨Ac, cc, rfl, h1c, h2c, -⟩ := hc.form; unfold maxLen at h2c
  clear hc
  have X := hd (Ext.refl w)
  go_enter Try.func8, Try.ntmps8
  by_cases hbigc : 1048576 < c.length
  · go_wp2
    go_ret
    exact RetT.mk rfl X.out
  ·
    have bc : Hid (Bd_IntS c) := hd (Nat.le_of_not_lt hbigc)
    go_wp2_with fail
    refine (u_to_IntS c _ _ (HAc.out.ext X.out) bc.out).mono ?_
    rintro e w1 ⟨u, rfl, hu, hx⟩
    have szw1 := hx.size
    replace X := hd (X.out.trans hx)
    have O2 := hd hu
    clear hx hu
    go_wp2_with fail
    refine (s_ClauseWeight n c _ _ HIn.out O2.out.rd bc.out HIc.out).mono ?_
    rintro e w3 ⟨rfl, hx⟩
    have szw3 := hx.size
    replace X := hd (X.out.trans hx)
    replace O2 := hd (O2.out.ext hx)
    clear hx
    clear O2
    go_wp2_with fail
    refine (u_to_IntS c _ _ (HAc.out.ext X.out) bc.out).mono ?_
    rintro e w4 ⟨u, rfl, hu, hx⟩
    have szw4 := hx.size
    replace X := hd (X.out.trans hx)
    have O5 := hd hu
    clear hx hu
    go_wp2_with fail
    refine (i_ClauseWeight n c _ _ HIn.out O5.out.rd bc.out HIc.out).mono ?_
    rintro e w6 ⟨rfl, hx⟩
    have szw6 := hx.size
    replace X := hd (X.out.trans hx)
    replace O5 := hd (O5.out.ext hx)
    clear hx
    go_wp2_with fail
    refine (u_to_IntS c _ _ (HAc.out.ext X.out) bc.out).mono ?_
    rintro e w7 ⟨u, rfl, hu, hx⟩
    have szw7 := hx.size
    replace X := hd (X.out.trans hx)
    replace O5 := hd (O5.out.ext hx)
    have O8 := hd hu
    clear hx hu
    go_wp2_with fail
    refine (u_eq_IntS c _ _ _ O5.out.rd O8.out.rd bc.out).mono ?_
    rintro e w9 ⟨rfl, hx⟩
    have szw9 := hx.size
    replace X := hd (X.out.trans hx)
    replace O5 := hd (O5.out.ext hx)
    replace O8 := hd (O8.out.ext hx)
    clear hx
    go_wp2
    go_ret
    exact RetT.mk rfl X.out
end Go.Proofs.Ytpljmlkinjhigaa
