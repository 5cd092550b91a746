/-
  The program on the strongest and the weakest values. Conditions: sizes up to 2^20.
-/
import Derived.Test.YtjeeffmpfdhppaaStrong
namespace Go.Proofs.Ytjeeffmpfdhppaa
open Go.RowKit
set_option maxRecDepth 100000 in
set_option maxHeartbeats 1600000 in
theorem i_sharedSplit_no (f : Cnf) (v : Value) (k : Int) (w : World) (h : Rd_Cnf w v f) (b : Bd_Cnf f) (hs : sharedB f k = false) :
    Calls Try.prog 60 #[v, .int .i64 k] w (fun e w' => ∃ p, e = .returned (.tuple #[p, .bool false]) ∧ Ext w w') := by
  obtain ⟨A, c, rfl⟩ := h.form
  have X0 : Hid (Ext w (w.alloc (.cells #[.int .i64 f.n, .slice A f.cs.length c] 31))) := hd (Ext.new _ _)
  have HV := hd (h.ext X0.out)
  have HB := hd b
  clear h b
  obtain ⟨q, hq⟩ : ∃ q, askB f k = q := ⟨_, rfl⟩
  have HQ := hd hq
  cases q
  · clear hq hs
    go_enter Try.func60, Try.ntmps60
    go_wp2_with fail
    refine (i_splitOf_no f _ k _ HV.out HB.out HQ.out).mono ?_
    rintro e w1 ⟨rfl, hx1⟩
    have X1 := hd (X0.out.trans hx1)
    clear hx1
    go_wp2_with fail
    go_quiet (fail)
    go_wp2
    go_ret2
    exact ⟨_, rfl, X1.out.drewN _⟩
  · obtain ⟨hg, j, rfl, hj⟩ := ask_inv hq
    have h6 : ¬ (bothV f j f.n.toNat).length ≤ 6 := by
      unfold sharedB someOk at hs
      rw [hq, Int.toNat_natCast] at hs
      simpa using hs
    have HG := hd hg
    have HJ := hd hj
    have HN := hd (filt12 hg (fun v => inS (f.cs.take j) v && inS (f.cs.drop j) v))
    have hbl : (bothV f j f.n.toNat).length ≤ 12 := HN.out
    clear hg hj hq hs HN
    obtain ⟨both, hbo⟩ : ∃ both, bothV f j f.n.toNat = both := ⟨_, rfl⟩
    rw [hbo] at h6 hbl
    have HBB := hd hbo
    clear hbo
    have hd6 : decide ((both.length : Int) ≤ 6) = false := decide_eq_false (by omega)
    go_enter Try.func60, Try.ntmps60
    go_wp2_with fail
    refine (i_splitOf_yes f _ j _ HV.out HB.out HG.out HJ.out).mono ?_
    rw [HBB.out]
    rintro e w1 ⟨p, rfl, hs, hx1⟩
    have X1 := hd (X0.out.trans hx1)
    obtain ⟨b, vc, vs, rfl, -, hb, -, ho, -⟩ := hs
    obtain ⟨c0, c1, c2, c3⟩ := blk4' hb
    obtain ⟨A2, cc2, rfl, -⟩ := ho.form
    clear hx1 hb ho
    go_wp2_with fail
    go_quiet (fail)
    go_wp2
    go_ret2
    exact ⟨_, rfl, X1.out.drewN _⟩
set_option maxRecDepth 100000 in
set_option maxHeartbeats 1600000 in
theorem i_sharedSplit_yes (f : Cnf) (v : Value) (j : Nat) (w : World) (h : Rd_Cnf w v f) (b : Bd_Cnf f) (hg : goodB f = true) (hj : j ≤ f.cs.length) (h6 : (bothV f j f.n.toNat).length ≤ 6) :
    Calls Try.prog 60 #[v, .int .i64 j] w (fun e w' => ∃ p, e = .returned (.tuple #[p, .bool true]) ∧ RdSp w' p f j (bothV f j f.n.toNat) ∧ Ext w w') := by
  obtain ⟨A, c, rfl⟩ := h.form
  have X0 : Hid (Ext w (w.alloc (.cells #[.int .i64 f.n, .slice A f.cs.length c] 31))) := hd (Ext.new _ _)
  have HV := hd (h.ext X0.out)
  have HB := hd b
  have HG := hd hg
  have HJ := hd hj
  clear h b hg hj
  obtain ⟨both, hbo⟩ : ∃ both, bothV f j f.n.toNat = both := ⟨_, rfl⟩
  rw [hbo] at h6
  have HBB := hd hbo
  rw [hbo]
  clear hbo
  have hd6 : decide ((both.length : Int) ≤ 6) = true := decide_eq_true (by omega)
  go_enter Try.func60, Try.ntmps60
  go_wp2_with fail
  refine (i_splitOf_yes f _ j _ HV.out HB.out HG.out HJ.out).mono ?_
  rw [HBB.out]
  rintro e w1 ⟨p, rfl, hs, hx1⟩
  have X1 := hd (X0.out.trans hx1)
  have HS := hd hs.rd
  obtain ⟨b, vc, vs, rfl, -, hb, -, ho, -⟩ := hs
  obtain ⟨c0, c1, c2, c3⟩ := blk4' hb
  obtain ⟨A2, cc2, rfl, -⟩ := ho.form
  clear hx1 hb ho
  go_wp2_with fail
  go_quiet (fail)
  go_wp2
  go_ret2
  exact ⟨_, rfl, HS.out.ext (ext_drewN _ _), X1.out.drewN _⟩
end Go.Proofs.Ytjeeffmpfdhppaa
