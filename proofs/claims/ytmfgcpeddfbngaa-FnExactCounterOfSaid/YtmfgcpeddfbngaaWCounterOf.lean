/-
  FnExactCounterOf: the walk: for all arguments the law returns true. No condition.
-/
import Derived.Test.YtmfgcpeddfbngaaLaw
import Derived.Test.YtmfgcpeddfbngaaFrame
import Derived.Test.YtmfgcpeddfbngaaFmR
namespace Go.Proofs.Ytmfgcpeddfbngaa
open Go.RowKit
set_option maxRecDepth 100000 in
set_option maxHeartbeats 3200000 in
theorem w_FnExactCounterOf (w : World) (gs : List (List UInt8)) (vgs : Value) (hgs : Rd_StringS w vgs gs) (higs : I64_StringS gs) (s : ByteArray) (hs : s.size ≤ 9223372036854775807) :
    Calls Try.prog 7 #[vgs, .string s] w (RetT w) := by
  have HIgs := hd higs; clear higs
  have HAgs := hd hgs
  obtain ⟨Ags, cgs, rfl, h1gs, h2gs, -⟩ := hgs.form; unfold maxLen at h2gs
  clear hgs
  have hbz0 := sz_StringS_bd gs 1048576 (by omega)
  generalize hz : sz_StringS gs 1048576 = z0 at *
  have Hz0 := hd hz; clear hz
  have X := hd (Ext.refl w)
  go_enter Try.func7, Try.ntmps7
  by_cases hbigs : 1048576 < s.size
  · go_wp2
    go_ret
    exact RetT.mk rfl X.out
  ·
    have bs := hd (Nat.le_of_not_lt hbigs)
    go_wp2_with fail
    refine (u_sz_StringS gs _ _ _ (HAgs.out.ext X.out) HIgs (by omega) (by omega)).mono ?_
    rintro e w1 ⟨rfl, hx⟩
    rw [Hz0.out]
    have szw1 := hx.size
    replace X := hd (X.out.trans hx)
    clear hx
    by_cases hneg0 : z0 < 0
    · go_wp2
      go_ret
      exact RetT.mk rfl X.out
    ·
      have bgs : Hid (Bd_StringS gs) := hd (sz_StringS_ok (by rw [Hz0.out]; exact hneg0) (by omega))
      go_wp2_with fail
      refine (u_to_StringS gs _ _ (HAgs.out.ext X.out) bgs.out).mono ?_
      rintro e w2 ⟨u, rfl, hu, hx⟩
      have szw2 := hx.size
      replace X := hd (X.out.trans hx)
      have O3 := hd hu
      clear hx hu
      go_wp2_with fail
      refine (s_CounterOf gs _ s _ O3.out.rd bgs.out HIgs.out bs.out).mono ?_
      rintro e w5 ⟨rfl, hx⟩
      have szw5 := hx.size
      replace X := hd (X.out.trans hx)
      replace O3 := hd (O3.out.ext hx)
      clear hx
      clear O3
      go_wp2_with fail
      refine (u_to_StringS gs _ _ (HAgs.out.ext X.out) bgs.out).mono ?_
      rintro e w6 ⟨u, rfl, hu, hx⟩
      have szw6 := hx.size
      replace X := hd (X.out.trans hx)
      have O7 := hd hu
      clear hx hu
      go_wp2_with fail
      refine (i_CounterOf gs _ s _ O7.out.rd bgs.out HIgs.out bs.out).mono ?_
      rintro e w9 ⟨rfl, hx⟩
      have szw9 := hx.size
      replace X := hd (X.out.trans hx)
      replace O7 := hd (O7.out.ext hx)
      clear hx
      go_wp2_with fail
      refine (u_to_StringS gs _ _ (HAgs.out.ext X.out) bgs.out).mono ?_
      rintro e w10 ⟨u, rfl, hu, hx⟩
      have szw10 := hx.size
      replace X := hd (X.out.trans hx)
      replace O7 := hd (O7.out.ext hx)
      have O11 := hd hu
      clear hx hu
      go_wp2_with fail
      refine (u_eq_StringS gs _ _ _ O7.out.rd O11.out.rd bgs.out).mono ?_
      rintro e w12 ⟨rfl, hx⟩
      have szw12 := hx.size
      replace X := hd (X.out.trans hx)
      replace O7 := hd (O7.out.ext hx)
      replace O11 := hd (O11.out.ext hx)
      clear hx
      go_wp2
      go_ret
      exact RetT.mk rfl X.out
end Go.Proofs.Ytmfgcpeddfbngaa
