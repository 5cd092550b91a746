/-
  FnExactPositiveForm: the walk: for all arguments the law returns true. No condition.
-/
import Derived.Test.YtkcljofjkmhopaaLaw
import Derived.Test.YtkcljofjkmhopaaFrame
import Derived.Test.YtkcljofjkmhopaaPosit
namespace Go.Proofs.Ytkcljofjkmhopaa
open Go.RowKit
set_option maxRecDepth 100000 in
set_option maxHeartbeats 3200000 in
theorem w_FnExactPositiveForm (w : World) (n : Int) (hn : I64 n) (c : List Int) (vc : Value) (hc : Rd_IntS w vc c) (hic : I64_IntS c) :
    Calls Try.prog 7 #[.int .i64 n, vc] w (RetT w) := by
  have HIn := hd hn; clear hn
  have HIc := hd hic; clear hic
  have HAc := hd hc
  obtain ⟨Ac, cc, rfl, h1c, h2c, -⟩ := hc.form; unfold maxLen at h2c
  clear hc
  have X := hd (Ext.refl w)
  go_enter Try.func7, Try.ntmps7
  by_cases hbigc : 1048576 < c.length
  · go_wp2
    go_ret
    exact RetT.mk rfl X.out
  ·
    have bc : Hid (Bd_IntS c) := hd (Nat.le_of_not_lt hbigc)
    go_wp2_with fail
    refine (u_to_IntS c _ _ (HAc.out.ext X.out) bc.out).mono ?_
    rintro e w1 ⟨u, rfl, hu, hx⟩
    have szw1 := hx.size
    replace X := hd (X.out.trans hx)
    have O2 := hd hu
    clear hx hu
    go_wp2_with fail
    refine (s_PositiveForm n c _ _ HIn.out O2.out.rd bc.out HIc.out).mono ?_
    rintro e w4 ⟨u0, rfl, hu0, hx⟩
    have szw4 := hx.size
    replace X := hd (X.out.trans hx)
    replace O2 := hd (O2.out.ext hx)
    have O5 := hd hu0
    clear hx hu0
    clear O2
    go_wp2_with fail
    refine (u_to_IntS c _ _ (HAc.out.ext X.out) bc.out).mono ?_
    rintro e w6 ⟨u, rfl, hu, hx⟩
    have szw6 := hx.size
    replace X := hd (X.out.trans hx)
    replace O5 := hd (O5.out.ext hx)
    have O7 := hd hu
    clear hx hu
    go_wp2_with fail
    refine (i_PositiveForm n c _ _ HIn.out O7.out.rd bc.out HIc.out).mono ?_
    rintro e w9 ⟨u0, rfl, hu0, hx⟩
    have szw9 := hx.size
    replace X := hd (X.out.trans hx)
    replace O5 := hd (O5.out.ext hx)
    replace O7 := hd (O7.out.ext hx)
    have O10 := hd hu0
    clear hx hu0
    go_wp2_with fail
    refine (u_eq_IntS (posN n c) _ _ _ O10.out.rd O5.out.rd (posN_bd n c)).mono ?_
    rintro e w11 ⟨rfl, hx⟩
    have szw11 := hx.size
    replace X := hd (X.out.trans hx)
    replace O5 := hd (O5.out.ext hx)
    replace O7 := hd (O7.out.ext hx)
    replace O10 := hd (O10.out.ext hx)
    clear hx
    go_wp2_with fail
    refine (u_to_IntS c _ _ (HAc.out.ext X.out) bc.out).mono ?_
    rintro e w12 ⟨u, rfl, hu, hx⟩
    have szw12 := hx.size
    replace X := hd (X.out.trans hx)
    replace O5 := hd (O5.out.ext hx)
    replace O7 := hd (O7.out.ext hx)
    replace O10 := hd (O10.out.ext hx)
    have O13 := hd hu
    clear hx hu
    go_wp2_with fail
    refine (u_eq_IntS c _ _ _ O7.out.rd O13.out.rd bc.out).mono ?_
    rintro e w14 ⟨rfl, hx⟩
    have szw14 := hx.size
    replace X := hd (X.out.trans hx)
    replace O5 := hd (O5.out.ext hx)
    replace O7 := hd (O7.out.ext hx)
    replace O10 := hd (O10.out.ext hx)
    replace O13 := hd (O13.out.ext hx)
    clear hx
    have lnO7 := len_IntS_bd bc.out
    go_wp2_with fail
    refine (u_mark_IntS c _ _ _ _ _ O7.out (by omega) bc.out (by omega) (by omega)).mono ?_
    rintro e w15 ⟨rfl, hm, ht⟩
    clear O7
    have szw15 := ht.size
    replace X := hd (touch_ext X.out ht (by omega))
    replace O5 := hd (O5.out.touch ht (by omega))
    replace O10 := hd (O10.out.touch ht (by omega))
    replace O13 := hd (O13.out.touch ht (by omega))
    clear hm ht
    go_wp2_with fail
    refine (u_eq_IntS (posN n c) _ _ _ O10.out.rd O5.out.rd (posN_bd n c)).mono ?_
    rintro e w17 ⟨rfl, hx⟩
    have szw17 := hx.size
    replace X := hd (X.out.trans hx)
    replace O5 := hd (O5.out.ext hx)
    replace O10 := hd (O10.out.ext hx)
    replace O13 := hd (O13.out.ext hx)
    clear hx
    have lnO10 := len_IntS_bd (posN_bd n c)
    go_wp2_with fail
    refine (u_mark_IntS (posN n c) _ _ _ _ _ O10.out (by omega) (posN_bd n c) (by omega) (by omega)).mono ?_
    rintro e w18 ⟨rfl, hm, ht⟩
    clear O10
    have szw18 := ht.size
    replace X := hd (touch_ext X.out ht (by omega))
    replace O5 := hd (O5.out.touch ht (by omega))
    replace O13 := hd (O13.out.touch ht (by omega))
    have M19 := hd hm
    clear hm ht
    go_wp2_with fail
    refine (u_held_IntS (posN n c) _ _ _ M19.out (posN_bd n c) (by omega) (by omega)).mono ?_
    rintro e w20 ⟨rfl, hx⟩
    have szw20 := hx.size
    replace X := hd (X.out.trans hx)
    replace O5 := hd (O5.out.ext hx)
    replace O13 := hd (O13.out.ext hx)
    replace M19 := hd (M19.out.ext hx)
    clear hx
    go_wp2_with fail
    refine (u_to_IntS c _ _ (HAc.out.ext X.out) bc.out).mono ?_
    rintro e w21 ⟨u, rfl, hu, hx⟩
    have szw21 := hx.size
    replace X := hd (X.out.trans hx)
    replace O5 := hd (O5.out.ext hx)
    replace O13 := hd (O13.out.ext hx)
    replace M19 := hd (M19.out.ext hx)
    have O22 := hd hu
    clear hx hu
    go_wp2_with fail
    refine (i_PositiveForm n c _ _ HIn.out O22.out.rd bc.out HIc.out).mono ?_
    rintro e w24 ⟨u0, rfl, hu0, hx⟩
    have szw24 := hx.size
    replace X := hd (X.out.trans hx)
    replace O5 := hd (O5.out.ext hx)
    replace O13 := hd (O13.out.ext hx)
    replace M19 := hd (M19.out.ext hx)
    replace O22 := hd (O22.out.ext hx)
    have O25 := hd hu0
    clear hx hu0
    clear O22
    go_wp2_with fail
    refine (u_eq_IntS (posN n c) _ _ _ O25.out.rd O5.out.rd (posN_bd n c)).mono ?_
    rintro e w26 ⟨rfl, hx⟩
    have szw26 := hx.size
    replace X := hd (X.out.trans hx)
    replace O5 := hd (O5.out.ext hx)
    replace O13 := hd (O13.out.ext hx)
    replace M19 := hd (M19.out.ext hx)
    replace O25 := hd (O25.out.ext hx)
    clear hx
    go_wp2_with fail
    refine (u_held_IntS (posN n c) _ _ _ M19.out (posN_bd n c) (by omega) (by omega)).mono ?_
    rintro e w27 ⟨rfl, hx⟩
    have szw27 := hx.size
    replace X := hd (X.out.trans hx)
    replace O5 := hd (O5.out.ext hx)
    replace O13 := hd (O13.out.ext hx)
    replace M19 := hd (M19.out.ext hx)
    replace O25 := hd (O25.out.ext hx)
    clear hx
    go_wp2
    go_ret
    exact RetT.mk rfl X.out
end Go.Proofs.Ytkcljofjkmhopaa
