/-
  FnExactPlacePigeon: the walk: for all arguments the law returns true. No condition.
-/
import Derived.Test.YtkcljofjkmhopaaLaw
import Derived.Test.YtkcljofjkmhopaaFrame
import Derived.Test.YtkcljofjkmhopaaPlaceI
namespace Go.Proofs.Ytkcljofjkmhopaa
open Go.RowKit
set_option maxRecDepth 100000 in
set_option maxHeartbeats 3200000 in
theorem w_FnExactPlacePigeon (w : World) (n : Int) (hn : I64 n) (i : Int) (hi : I64 i) (j : Int) (hj : I64 j) :
    Calls Try.prog 6 #[.int .i64 n, .int .i64 i, .int .i64 j] w (RetT w) := by
  have HIn := hd hn; clear hn
  have HIi := hd hi; clear hi
  have HIj := hd hj; clear hj
  have X := hd (Ext.refl w)
  go_enter Try.func6, Try.ntmps6
  go_wp2_with fail
  refine (s_PlacePigeon n i j _ HIn.out HIi.out HIj.out).mono ?_
  rintro e w2 ⟨u0, rfl, hu0, hx⟩
  have szw2 := hx.size
  replace X := hd (X.out.trans hx)
  have O3 := hd hu0
  clear hx hu0
  go_wp2_with fail
  refine (i_PlacePigeon n i j _ HIn.out HIi.out HIj.out).mono ?_
  rintro e w5 ⟨u0, rfl, hu0, hx⟩
  have szw5 := hx.size
  replace X := hd (X.out.trans hx)
  replace O3 := hd (O3.out.ext hx)
  have O6 := hd hu0
  clear hx hu0
  go_wp2_with fail
  refine (u_eq_IntS (placeV n i j) _ _ _ O6.out.rd O3.out.rd (placeV_bd n i j)).mono ?_
  rintro e w7 ⟨rfl, hx⟩
  have szw7 := hx.size
  replace X := hd (X.out.trans hx)
  replace O3 := hd (O3.out.ext hx)
  replace O6 := hd (O6.out.ext hx)
  clear hx
  have lnO6 := len_IntS_bd (placeV_bd n i j)
  go_wp2_with fail
  refine (u_mark_IntS (placeV n i j) _ _ _ _ _ O6.out (by omega) (placeV_bd n i j) (by omega) (by omega)).mono ?_
  rintro e w8 ⟨rfl, hm, ht⟩
  clear O6
  have szw8 := ht.size
  replace X := hd (touch_ext X.out ht (by omega))
  replace O3 := hd (O3.out.touch ht (by omega))
  have M9 := hd hm
  clear hm ht
  go_wp2_with fail
  refine (u_held_IntS (placeV n i j) _ _ _ M9.out (placeV_bd n i j) (by omega) (by omega)).mono ?_
  rintro e w10 ⟨rfl, hx⟩
  have szw10 := hx.size
  replace X := hd (X.out.trans hx)
  replace O3 := hd (O3.out.ext hx)
  replace M9 := hd (M9.out.ext hx)
  clear hx
  go_wp2_with fail
  refine (i_PlacePigeon n i j _ HIn.out HIi.out HIj.out).mono ?_
  rintro e w12 ⟨u0, rfl, hu0, hx⟩
  have szw12 := hx.size
  replace X := hd (X.out.trans hx)
  replace O3 := hd (O3.out.ext hx)
  replace M9 := hd (M9.out.ext hx)
  have O13 := hd hu0
  clear hx hu0
  go_wp2_with fail
  refine (u_eq_IntS (placeV n i j) _ _ _ O13.out.rd O3.out.rd (placeV_bd n i j)).mono ?_
  rintro e w14 ⟨rfl, hx⟩
  have szw14 := hx.size
  replace X := hd (X.out.trans hx)
  replace O3 := hd (O3.out.ext hx)
  replace M9 := hd (M9.out.ext hx)
  replace O13 := hd (O13.out.ext hx)
  clear hx
  go_wp2_with fail
  refine (u_held_IntS (placeV n i j) _ _ _ M9.out (placeV_bd n i j) (by omega) (by omega)).mono ?_
  rintro e w15 ⟨rfl, hx⟩
  have szw15 := hx.size
  replace X := hd (X.out.trans hx)
  replace O3 := hd (O3.out.ext hx)
  replace M9 := hd (M9.out.ext hx)
  replace O13 := hd (O13.out.ext hx)
  clear hx
  go_wp2
  go_ret
  exact RetT.mk rfl X.out
end Go.Proofs.Ytkcljofjkmhopaa
