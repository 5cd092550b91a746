/-
  FnExactCriticalBits: the walk: for all numbers the law returns true. No condition.
-/
import Derived.Test.YtegaablidoibdaaFrame
import Derived.Test.YtegaablidoibdaaC28e
namespace Go.Proofs.Ytegaablidoibdaa
open Go.RowKit
set_option maxHeartbeats 1600000 in
theorem w_FnExactCriticalBits (w : World) (n : Int) (_ : I64 n) :
    Calls Try.prog 11 #[.int .i64 n] w (RetT w) := by
  have hcl := critAll_len n
  have HCL : Hid ((critAll n).length ≤ 1073741824) := hd (by omega)
  generalize hxs : critAll n = xs at *
  have HXS := hd hxs
  clear hxs
  go_enter Try.func11, Try.ntmps11
  go_wp2_with fail
  refine (s_CriticalBits n _).mono ?_
  rintro e w1 ⟨u1, rfl, hu1, hx1⟩
  rw [HXS.out] at hu1
  have O1 := hd hu1
  have X1 := hd hx1
  go_wp2_with fail
  refine (i_CriticalBits n _).mono ?_
  rintro e w2 ⟨u2, rfl, hu2, hx2⟩
  rw [HXS.out] at hu2
  have O2 := hd hu2
  have O1' := hd (O1.out.ext hx2)
  have X2 := hd (X1.out.trans hx2)
  have S2 := hd hx2.size
  clear hu1 hx1 hu2 hx2
  go_wp2_with fail
  refine (rtq (l_eqIntS xs xs _ _ _ O2.out.rd O1'.out.rd HCL.out HCL.out) (hd (eqI_refl xs))).mono ?_
  rintro e w3 ⟨rfl, n3, rfl⟩
  have O2' := hd (O2.out.ext (ext_drewN w2 n3))
  have O1'' := hd (O1'.out.ext (ext_drewN w2 n3))
  have X3 := hd (X2.out.drewN n3)
  go_wp2_with fail
  refine (l_markIntS xs _ 1 _ _ O2'.out HCL.out (by omega) (by omega)).mono ?_
  rintro e w4 ⟨rfl, hu4, hg4⟩
  have O4 := hd hu4
  have X4 : Hid (Ext w w4) := hd (X3.out.grown hg4 X3.out.size (fun g hg => Nat.le_trans X1.out.size (own_blocks O2.out g hg).1))
  have P4 : Hid (OwnI w4 w.heap.size 3 u1 xs) := hd (own_grown O1''.out hg4 (fun g h1 h2 => by have := (own_blocks O1.out g h1).2; have := (own_blocks O2.out g h2).1; omega))
  clear hu4 hg4
  go_wp2_with fail
  refine (l_heldIntS xs.length _ 1 _ O4.out.rd HCL.out (by omega) (by omega)).mono ?_
  rintro e w5 ⟨rfl, rfl⟩
  go_wp2_with fail
  refine (i_CriticalBits n _).mono ?_
  rintro e w6 ⟨u6, rfl, hu6, hx6⟩
  rw [HXS.out] at hu6
  have O6 := hd hu6
  have X6 := hd (X4.out.trans hx6)
  have P6 := hd (P4.out.ext hx6)
  have M6 := hd (O4.out.ext hx6)
  clear hu6 hx6
  go_wp2_with fail
  refine (rtq (l_eqIntS xs xs _ _ _ O6.out.rd P6.out.rd HCL.out HCL.out) (hd (eqI_refl xs))).mono ?_
  rintro e w7 ⟨rfl, n7, rfl⟩
  go_wp2_with fail
  refine (l_heldIntS xs.length _ 1 _ (M6.out.ext (ext_drewN _ _)).rd HCL.out (by omega) (by omega)).mono ?_
  rintro e w8 ⟨rfl, rfl⟩
  go_wp2
  go_ret
  exact RetT.mk rfl (X6.out.drewN _)
end Go.Proofs.Ytegaablidoibdaa
