/-
  CaseOf of both sides. Conditions: the program's table of schemes holds the schemes; texts up to 2^20.
-/
import Derived.Test.YtapgpjhogdmjbaaDoorCas
namespace Go.Proofs.YtapgpjhogdmjbaaDoor
open Go.RowKit
def caseOk (k : Int) (a b c : ByteArray) : Bool := inB k 1 10 && (isF a && (isF b && (isF c && decide ((caseL k.toNat a.data.toList b.data.toList c.data.toList).length ≤ 80))))
def caseV (k : Int) (a b c : ByteArray) : ByteArray := if caseOk k a b c then ⟨(caseL k.toNat a.data.toList b.data.toList c.data.toList).toArray⟩ else ⟨#[]⟩
theorem isF_size {s : ByteArray} (h : isF s = true) : s.size ≤ 80 := by
  unfold isF at h
  cases hg : goodF s with
  | none => rw [hg] at h; cases h
  | some f => exact (goodF_iff.1 hg).1
theorem isF_fm {s : ByteArray} (h : isF s = true) : ∃ f, goodF s = some f ∧ s.data.toList = txt f ∧ WfF f = true ∧ (txt f).length ≤ 80 := by
  unfold isF at h
  cases hg : goodF s with
  | none => rw [hg] at h; cases h
  | some f =>
    obtain ⟨h1, h2, h3⟩ := goodF_iff.1 hg
    exact ⟨f, rfl, h2, h3, by rw [← h2, len_list]; exact h1⟩
theorem inB_succ {k : Int} (h : inB k 1 10 = true) : ∃ j : Nat, j < 10 ∧ k = (j : Int) + 1 := by
  obtain ⟨h1, h2⟩ := inB_iff.1 h
  exact ⟨(k - 1).toNat, by omega, by omega⟩
theorem caseV_no {k : Int} {a b c : ByteArray} (h : caseOk k a b c = false) : caseV k a b c = ⟨#[]⟩ := by unfold caseV; rw [h]; rfl
theorem caseV_yes {k : Int} {a b c : ByteArray} (h : caseOk k a b c = true) : caseV k a b c = ⟨(caseL k.toNat a.data.toList b.data.toList c.data.toList).toArray⟩ := by unfold caseV; rw [h]; rfl
theorem s_l24Scheme (k : Int) (w : World) : Calls Tryd.prog 53 #[.int .i64 k] w (Ret w (.bool (inB k 1 10))) := by
  go_enter Tryd.func53, Tryd.ntmps53
  go_wp2_with fail
  refine (s_l1In k 1 10 w).mono ?_
  rintro e w1 ⟨rfl, rfl⟩
  go_wp2
  go_ret
  exact Ret.mk rfl
theorem sch_good (k : Nat) : goodF (schS k) = some (schT k) := goodF_iff.2 ⟨by unfold schS; rw [strF_size]; have := (schT_ok k).2.2.1; omega, strF_list _, (schT_ok k).1⟩
set_option maxHeartbeats 1600000 in
theorem i_caseOf (j : Nat) (hj : j < 10) (x y z : Fm) (px py pz : Option Addr) (hx : (txt x).length ≤ 1000) (hy : (txt y).length ≤ 1000) (hz : (txt z).length ≤ 1000) (w : World) (hg : GlobS w)
    (h97 : RdF 66 w x (.pointer px)) (h98 : RdF 66 w y (.pointer py)) (h99 : occF 99 (schT (j + 1)) = true → RdF 66 w z (.pointer pz)) :
    Calls Tryd.prog 26 #[.int .i64 ((j : Int) + 1), .pointer px, .pointer py, .pointer pz] w (RetF w (putF x y z (schT (j + 1)))) := by
  have hc0 := hg j hj
  have hwr : IntKind.i64.wrap ((j : Int) + 1 - 1) = (j : Int) := by rw [show (j : Int) + 1 - 1 = (j : Int) from by omega]; exact IntWalk.i64_in _ (by omega)
  have hj0 : (0 : Int) ≤ (j : Int) := by omega
  have hj1 : (j : Int) < 10 := by omega
  have HG := hd (sch_good (j + 1))
  have HS := hd (schT_ok (j + 1))
  have H97 := hd h97
  have H98 := hd h98
  have H99 := hd h99
  clear hg h97 h98 h99
  generalize schS (j + 1) = s at *
  generalize schT (j + 1) = f at *
  go_enter Tryd.func26, Tryd.ntmps26
  go_wp2_with fail
  refine (rp_yes (i_parse s _) HG).mono ?_
  rintro e w1 ⟨v, rfl, hv, hx1⟩
  have HX1 := hd hx1
  have HV := hd hv
  clear hv hx1 hc0
  go_wp2_with fail
  refine (i_put x y z px py pz hx hy hz f HS.out.1 HS.out.2.1 HS.out.2.2.1 v _ HV.out (fun _ => H97.out.ext HX1.out) (fun _ => H98.out.ext HX1.out) (fun e => (H99.out e).ext HX1.out)).mono ?_
  rintro e w2 ⟨u, rfl, hu, hx2⟩
  have HU := hd hu
  have HX2 := hd (HX1.out.trans hx2)
  clear hu hx2
  go_wp2
  go_ret
  exact ⟨_, rfl, HU.out, HX2.out⟩
end Go.Proofs.YtapgpjhogdmjbaaDoor
