/-
  IdentityProof, the program's side: the steps, and the law's function. Condition: the program's table of schemes holds the schemes.
-/
import Derived.Test.YtapgpjhogdmjbaaDoorIdnI
namespace Go.Proofs.YtapgpjhogdmjbaaDoor
open Go.RowKit
theorem i_modusR (rs : List Rec) (f : Fm) (v : Value) (b lo : Nat) (sv : Value) (y z : Int) (w : World) (h : BxF w b lo sv rs) (hf : RdF 66 w f v) (hl : rs.length ≤ 1000000) (hlo : lo ≤ w.heap.size) :
    Calls Tryd.prog 27 #[.pointer (some ⟨b, 0, none⟩), v, .int .i64 y, .int .i64 z] w (fun e w' => e = .returned (.int .i64 rs.length) ∧ (∃ sv', BxF w' b lo sv' (rs ++ [⟨strF f, -1, y, z⟩])) ∧ KeepB w w' b lo) := by
  have HP := hd (i_fputR rs f v b lo sv (-1) y z w h hf hl hlo)
  clear h hf
  go_enter Tryd.func27, Tryd.ntmps27
  go_wp2_with fail
  refine HP.out.mono ?_
  rintro e w1 ⟨rfl, h1, h2⟩
  have H1 := hd h1
  have H2 := hd h2
  clear h1 h2
  go_wp2
  go_ret
  exact ⟨rfl, H1.out, H2.out⟩
set_option maxRecDepth 100000 in
set_option maxHeartbeats 6400000 in
theorem i_identityR (rs : List Rec) (A : Fm) (p : Option Addr) (b lo : Nat) (sv : Value) (w : World) (h : BxF w b lo sv rs) (hA : RdF 66 w A (.pointer p)) (hg : GlobS w) (hgw : ∀ w', KeepB w w' b lo → GlobS w') (hl : rs.length ≤ 100000) (hlo : lo ≤ w.heap.size) (hwA : (txt A).length ≤ 300) :
    Calls Tryd.prog 24 #[.pointer (some ⟨b, 0, none⟩), .pointer p] w (fun e w' => e = .returned (.int .i64 ((rs.length : Int) + 1 + 1 + 1 + 1)) ∧ (∃ sv', BxF w' b lo sv' (rs ++ idR rs.length A)) ∧ KeepB w w' b lo) := by
  have h2 := imp_len A A
  have h3 := imp_len A (impF A A)
  have HI1 : Hid (∀ w', RdF 66 w' A (.pointer p) → Calls Tryd.prog 28 #[.int .u8 62, .pointer p, .pointer p] w' (RetF w' (impF A A))) := hd (fun w' h => i_join 62 rfl A A (.pointer p) (.pointer p) w' h h (by omega) (by omega))
  have HI2 : Hid (∀ v w', RdF 66 w' A (.pointer p) → RdF 66 w' (impF A A) v → Calls Tryd.prog 28 #[.int .u8 62, .pointer p, v] w' (RetF w' (impF A (impF A A)))) := hd (fun v w' h h' => i_join 62 rfl A (impF A A) (.pointer p) v w' h h' (by omega) (by omega))
  have HI3 : Hid (∀ v u w', RdF 66 w' (impF A (impF A A)) v → RdF 66 w' (impF A A) u → Calls Tryd.prog 28 #[.int .u8 62, v, u] w' (RetF w' (impF (impF A (impF A A)) (impF A A)))) := hd (fun v u w' h h' => i_join 62 rfl (impF A (impF A A)) (impF A A) v u w' h h' (by omega) (by omega))
  have HC2 : Hid (∀ q w', GlobS w' → RdF 66 w' A (.pointer p) → RdF 66 w' (impF A A) (.pointer q) → Calls Tryd.prog 26 #[.int .i64 2, .pointer p, .pointer q, .pointer p] w' (RetF w' (putF A (impF A A) A (schT 2)))) := hd fun q w' a c d => i_caseOf 1 (by omega) A (impF A A) A p q p (by omega) (by omega) (by omega) w' a c d (fun _ => c)
  have HC1 : Hid (∀ q w', GlobS w' → RdF 66 w' A (.pointer p) → RdF 66 w' (impF A A) (.pointer q) → Calls Tryd.prog 26 #[.int .i64 1, .pointer p, .pointer q, .pointer none] w' (RetF w' (putF A (impF A A) A (schT 1)))) := hd fun q w' a c d => i_caseOf 0 (by omega) A (impF A A) A p q none (by omega) (by omega) (by omega) w' a c d (fun h => absurd h (by decide))
  have HC0 : Hid (∀ w', GlobS w' → RdF 66 w' A (.pointer p) → Calls Tryd.prog 26 #[.int .i64 1, .pointer p, .pointer p, .pointer none] w' (RetF w' (putF A A A (schT 1)))) := hd fun w' a c => i_caseOf 0 (by omega) A A A p p none (by omega) (by omega) (by omega) w' a c c (fun h => absurd h (by decide))
  obtain ⟨n, hn⟩ : ∃ n, rs.length = n := ⟨_, rfl⟩
  have HID : Hid (idR rs.length A = [⟨strF (putF A (impF A A) A (schT 2)), 2, 0, 0⟩, ⟨strF (putF A (impF A A) A (schT 1)), 1, 0, 0⟩, ⟨strF (impF (impF A (impF A A)) (impF A A)), -1, (n : Int) + 1, n⟩, ⟨strF (putF A A A (schT 1)), 1, 0, 0⟩, ⟨strF (impF A A), -1, (n : Int) + 1 + 1 + 1, (n : Int) + 1 + 1⟩]) := hd (by rw [hn]; unfold idR; rw [show (n : Int) + 1 + 1 + 1 = (n : Int) + 3 from by omega, show (n : Int) + 1 + 1 = (n : Int) + 2 from by omega])
  have HB := hd h
  have HA := hd hA
  have HG := hd hg
  rw [hn] at hl ⊢
  have HN := hd hn
  have HGW := hd hgw
  clear h hA hg hgw h2 h3 hwA hn
  generalize putF A (impF A A) A (schT 2) = t1 at *
  generalize putF A (impF A A) A (schT 1) = t2 at *
  generalize impF (impF A (impF A A)) (impF A A) = t3 at *
  generalize putF A A A (schT 1) = t4 at *
  generalize impF A (impF A A) = t6 at *
  generalize impF A A = t5 at *
  go_enter Tryd.func24, Tryd.ntmps24
  have HK := hd (KeepB.refl w b lo)
  go_wp2_with fail
  refine (HI1.out _ HA.out).mono ?_
  rintro e w1 ⟨u5, rfl, hu, hx⟩
  replace HB := hd (HB.out.ext hx)
  replace HA := hd (HA.out.ext hx)
  replace HG := hd (HG.out.ext hx)
  replace HK := hd (HK.out.trans (KeepB.of_ext hx))
  obtain ⟨b5, _, _, rfl, _⟩ := hu.head
  have HS : Hid (RdF 66 w1 t5 (.pointer (some ⟨b5, 0, none⟩))) := hd hu
  clear hu hx

  go_wp2_with fail
  refine (HC2.out _ _ HG.out HA.out HS.out).mono ?_
  rintro e w1 ⟨uc, rfl, hu, hx⟩
  replace HB := hd (HB.out.ext hx)
  replace HA := hd (HA.out.ext hx)
  replace HG := hd (HG.out.ext hx)
  replace HK := hd (HK.out.trans (KeepB.of_ext hx))
  replace HS := hd (HS.out.ext hx)
  have HT := hd hu
  clear hu hx
  go_wp2_with fail
  refine (i_fputR _ t1 _ b lo _ 2 0 0 _ HB.out HT.out (by rw [HN.out]; omega) (by have := HK.out.size; omega)).mono ?_
  rw [HN.out]
  rintro e w1 ⟨rfl, ⟨sv1, hb⟩, hk⟩
  replace HB := hd hb
  replace HA := hd (HA.out.keep hk.nodes)
  replace HS := hd (HS.out.keep hk.nodes)
  replace HK := hd (HK.out.trans hk)
  clear hb hk HT
  replace HG : Hid (GlobS w1) := hd (HGW.out _ HK.out)
  go_wp2_with fail
  refine (HC1.out _ _ HG.out HA.out HS.out).mono ?_
  rintro e w1 ⟨uc, rfl, hu, hx⟩
  replace HB := hd (HB.out.ext hx)
  replace HA := hd (HA.out.ext hx)
  replace HG := hd (HG.out.ext hx)
  replace HK := hd (HK.out.trans (KeepB.of_ext hx))
  replace HS := hd (HS.out.ext hx)
  have HT := hd hu
  clear hu hx
  go_wp2_with fail
  refine (i_fputR _ t2 _ b lo _ 1 0 0 _ HB.out HT.out (by rw [List.length_append, HN.out]; simp; omega) (by have := HK.out.size; omega)).mono ?_
  rw [List.length_append, HN.out]
  rintro e w1 ⟨rfl, ⟨sv2, hb⟩, hk⟩
  replace HB := hd hb
  replace HA := hd (HA.out.keep hk.nodes)
  replace HS := hd (HS.out.keep hk.nodes)
  replace HK := hd (HK.out.trans hk)
  clear hb hk HT
  replace HG : Hid (GlobS w1) := hd (HGW.out _ HK.out)
  go_wp2_with fail
  refine (HI2.out _ _ HA.out HS.out).mono ?_
  rintro e w1 ⟨u6, rfl, hu, hx⟩
  replace HB := hd (HB.out.ext hx)
  replace HA := hd (HA.out.ext hx)
  replace HG := hd (HG.out.ext hx)
  replace HK := hd (HK.out.trans (KeepB.of_ext hx))
  replace HS := hd (HS.out.ext hx)
  have H6 := hd hu
  clear hu hx
  go_wp2_with fail
  refine (HI3.out _ _ _ H6.out HS.out).mono ?_
  rintro e w1 ⟨u3, rfl, hu, hx⟩
  replace HB := hd (HB.out.ext hx)
  replace HA := hd (HA.out.ext hx)
  replace HG := hd (HG.out.ext hx)
  replace HK := hd (HK.out.trans (KeepB.of_ext hx))
  replace HS := hd (HS.out.ext hx)
  have HT := hd hu
  clear hu hx H6
  go_wp2_with fail
  refine (i_modusR _ t3 _ b lo _ ((n : Int) + 1) n _ HB.out HT.out (by rw [List.length_append, List.length_append, HN.out]; simp; omega) (by have := HK.out.size; omega)).mono ?_
  rw [List.length_append, List.length_append, HN.out]
  rintro e w1 ⟨rfl, ⟨sv3, hb⟩, hk⟩
  replace HB := hd hb
  replace HA := hd (HA.out.keep hk.nodes)
  replace HS := hd (HS.out.keep hk.nodes)
  replace HK := hd (HK.out.trans hk)
  clear hb hk HT
  replace HG : Hid (GlobS w1) := hd (HGW.out _ HK.out)
  go_wp2_with fail
  refine (HC0.out _ HG.out HA.out).mono ?_
  rintro e w1 ⟨uc, rfl, hu, hx⟩
  replace HB := hd (HB.out.ext hx)
  replace HA := hd (HA.out.ext hx)
  replace HG := hd (HG.out.ext hx)
  replace HK := hd (HK.out.trans (KeepB.of_ext hx))
  replace HS := hd (HS.out.ext hx)
  have HT := hd hu
  clear hu hx
  go_wp2_with fail
  refine (i_fputR _ t4 _ b lo _ 1 0 0 _ HB.out HT.out (by rw [List.length_append, List.length_append, List.length_append, HN.out]; simp; omega) (by have := HK.out.size; omega)).mono ?_
  rw [List.length_append, List.length_append, List.length_append, HN.out]
  rintro e w1 ⟨rfl, ⟨sv4, hb⟩, hk⟩
  replace HB := hd hb
  replace HA := hd (HA.out.keep hk.nodes)
  replace HS := hd (HS.out.keep hk.nodes)
  replace HK := hd (HK.out.trans hk)
  clear hb hk HT
  replace HG : Hid (GlobS w1) := hd (HGW.out _ HK.out)
  have HT := hd HS.out
  go_wp2_with fail
  refine (i_modusR _ t5 _ b lo _ ((n : Int) + 1 + 1 + 1) ((n : Int) + 1 + 1) _ HB.out HS.out (by rw [List.length_append, List.length_append, List.length_append, List.length_append, HN.out]; simp; omega) (by have := HK.out.size; omega)).mono ?_
  rw [List.length_append, List.length_append, List.length_append, List.length_append, HN.out]
  rintro e w1 ⟨rfl, ⟨sv5, hb⟩, hk⟩
  replace HB := hd hb
  replace HA := hd (HA.out.keep hk.nodes)
  replace HS := hd (HS.out.keep hk.nodes)
  replace HK := hd (HK.out.trans hk)
  clear hb hk HT
  replace HG : Hid (GlobS w1) := hd (HGW.out _ HK.out)
  go_wp2
  go_ret
  refine ⟨rfl, ⟨sv5, ?_⟩, HK.out⟩
  have := HB.out
  rw [← HN.out, HID.out]
  simpa [List.append_assoc] using this
theorem i_doneR (rs : List Rec) (b lo : Nat) (sv : Value) (w : World) (h : BxF w b lo sv rs) : Calls Tryd.prog 29 #[.pointer (some ⟨b, 0, none⟩)] w (Ret w (.tuple #[if giveF rs then sv else .slice none 0 0, .bool (giveF rs)])) := by
  obtain ⟨⟨c0, c1⟩, -, -⟩ := blk2F h.blk
  obtain ⟨A, c, rfl⟩ := OwnF.form2 h.own rfl
  generalize rs.length = n at *
  have HL : Hid (lgF rs = !giveF rs) := hd rfl
  rw [HL.out] at c1
  clear h HL
  obtain ⟨q, hq⟩ : ∃ q, giveF rs = q := ⟨_, rfl⟩
  rw [hq] at c1 ⊢
  clear hq
  cases q
  · rw [if_neg (by decide)]
    go_enter Tryd.func29, Tryd.ntmps29
    go_wp2
    go_ret2
    exact Ret.mk rfl
  · rw [if_pos rfl]
    go_enter Tryd.func29, Tryd.ntmps29
    go_wp2
    go_ret2
    exact Ret.mk rfl
end Go.Proofs.YtapgpjhogdmjbaaDoor
