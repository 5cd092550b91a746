/-
  Discharge, the program's side: which steps are correct. Condition: the program's table of schemes holds the schemes.
-/
import Derived.Test.YtapgpjhogdmjbaaDoorFrgI
import Derived.Test.YtapgpjhogdmjbaaDoorFrgT
import Derived.Test.YtapgpjhogdmjbaaDoorC1
import Derived.BigQuiet
namespace Go.Proofs.YtapgpjhogdmjbaaDoor
open Go.RowKit Go.Sort
theorem op_let {o : UInt8} (ho : isOp o = true) : letB o = false := by rcases isOp_or ho with rfl | rfl | rfl <;> rfl
theorem i_fits : ∀ (f y : Fm), WfF f = true → abcF f = true → WfF y = true → FitC f y
  | .leaf c, y, hf, ha, hy => by
    have hcon : ∀ (c : UInt8), letB c = false → isLf c = true → FitC (.leaf c) y := fun c hb hc => by
      cases y with
      | leaf d =>
        by_cases e : c = d
        · exact fit_con c _ hb (by rw [e]; rfl) fun st => by unfold matF; rw [hb, if_neg (by decide), e]; simp
        · exact fit_ne _ _ hb (toNat_ne e) fun st => by unfold matF; rw [hb, if_neg (by decide)]; simp [e]
      | neg b => exact fit_ne _ _ hb (toNat_ne (lf_ne_neg hc)) fun st => by unfold matF; rw [hb, if_neg (by decide)]
      | bin o p q =>
        have hy' : (isOp o && (WfF p && WfF q)) = true := hy
        rw [Bool.and_eq_true] at hy'
        exact fit_ne _ _ hb (toNat_ne (lf_ne_op hc hy'.1)) fun st => by unfold matF; rw [hb, if_neg (by decide)]
    rcases abc_let ha with rfl | rfl | rfl | rfl | rfl
    · exact fit_let0 y
    · exact fit_let1 y
    · exact fit_let2 y
    · exact hcon 48 rfl hf
    · exact hcon 49 rfl hf
  | .neg a, .neg b, hf, ha, hy => fit_neg a b (hd (i_fits a b hf ha hy))
  | .neg a, .leaf d, hf, _, hy => fit_ne _ _ rfl (toNat_ne (lf_ne_neg hy).symm) fun _ => rfl
  | .neg a, .bin o p q, hf, _, hy => by
    have hy' : (isOp o && (WfF p && WfF q)) = true := hy
    rw [Bool.and_eq_true] at hy'
    exact fit_ne _ _ rfl (toNat_ne (op_ne_neg hy'.1).symm) fun _ => rfl
  | .bin o a b, .leaf d, hf, _, hy => by
    have hf' : (isOp o && (WfF a && WfF b)) = true := hf
    rw [Bool.and_eq_true] at hf'
    exact fit_ne _ _ (op_let hf'.1) (toNat_ne (lf_ne_op hy hf'.1).symm) fun _ => rfl
  | .bin o a b, .neg d, hf, _, hy => by
    have hf' : (isOp o && (WfF a && WfF b)) = true := hf
    rw [Bool.and_eq_true] at hf'
    exact fit_ne _ _ (op_let hf'.1) (toNat_ne (op_ne_neg hf'.1)) fun _ => rfl
  | .bin o a b, .bin o' p q, hf, ha, hy => by
    have hf' : (isOp o && (WfF a && WfF b)) = true := hf
    have hy' : (isOp o' && (WfF p && WfF q)) = true := hy
    have ha' : (abcF a && abcF b) = true := ha
    rw [Bool.and_eq_true, Bool.and_eq_true] at hf' hy'
    rw [Bool.and_eq_true] at ha'
    by_cases e : o = o'
    · subst e
      exact fit_bin o (op_let hf'.1) a b p q (hd (i_fits a p hf'.2.1 ha'.1 hy'.2.1)) (hd (i_fits b q hf'.2.2 ha'.2 hy'.2.2))
    · exact fit_ne _ _ (op_let hf'.1) (toNat_ne e) fun _ => by unfold matF; rw [if_neg e]
theorem i_isCase (j : Nat) (hj : j < 10) (y : Fm) (hy : WfF y = true) (p : Option Addr) (w : World) (hg : GlobS w) (h : RdF 66 w y (.pointer p)) : Calls Tryd.prog 56 #[.int .i64 ((j : Int) + 1), .pointer p] w (RetX w (.bool (isC (j + 1) y))) := by
  have hc0 := hg j hj
  have hwr : IntKind.i64.wrap ((j : Int) + 1 - 1) = (j : Int) := by rw [show (j : Int) + 1 - 1 = (j : Int) from by omega]; exact IntWalk.i64_in _ (by omega)
  have hj0 : (0 : Int) ≤ (j : Int) := by omega
  have hj1 : (j : Int) < 10 := by omega
  have HG := hd (sch_good (j + 1))
  have HF := hd (fun vf vy b w' => i_fits (schT (j + 1)) y (schT_ok (j + 1)).1 (schT_ok (j + 1)).2.1 hy [[], [], []] vf vy b w')
  have HC : Hid ((matF (schT (j + 1)) y [[], [], []]).2 = isC (j + 1) y) := hd rfl
  have HY := hd h
  clear hg h
  rw [HC.out] at HF
  generalize schS (j + 1) = s at *
  generalize isC (j + 1) y = q at *
  go_enter Tryd.func56, Tryd.ntmps56
  go_wp2_with fail
  refine (rp_yes (i_parse s _) HG).mono ?_
  rintro e w1 ⟨v, rfl, hv, hx1⟩
  have HX1 := hd hx1
  have HV := hd hv
  obtain ⟨bv, _, _, rfl, _⟩ := hv.head
  have HB : Hid (StB (w1.alloc (.cells #[.pointer none, .pointer none, .pointer none] 69)) w1.heap.size [[], [], []]) := hd ⟨_, _, _, _, _, _, rfl, heap_alloc_new w1 _, .inl ⟨rfl, rfl⟩, .inl ⟨rfl, rfl⟩, .inl ⟨rfl, rfl⟩⟩
  clear hv hx1 hc0
  go_wp2_with fail
  refine (HF.out _ _ _ _ (HV.out.ext (Ext.new _ _)) (HY.out.ext (HX1.out.alloc _)) HB.out).mono ?_
  rintro e w2 ⟨rfl, -, hk⟩
  have HX2 := hd (hk.ex w1 (Ext.new _ _) (Nat.le_refl _))
  clear hk
  go_wp2
  go_ret
  exact RetX.mk rfl (HX1.out.trans HX2.out)
end Go.Proofs.YtapgpjhogdmjbaaDoor
