/-
  The reference's question whether a formula and a number of left clauses are valid, and the lists of the sides' variables. Conditions: sizes up to 2^20.
-/
import Derived.Test.YtjeeffmpfdhppaaSide
namespace Go.Proofs.Ytjeeffmpfdhppaa
open Go.RowKit
theorem own_app' {w w' : World} {base : Nat} {e : TypeId} {s n : Nat} {v v2 : Value} {cs : List Value} {o : Obj} (h : Own w base e s v2 n cs) (hg : (w.alloc o).grownBy w' v.ownBlock) (hne : ∀ g, v2.ownBlock = some g → v.ownBlock = some g → False) : Own w' base e s v2 n cs :=
  own_grown (own_ext h (Ext.new w o)) hg hne
/-- No block in common. -/
def Apart (a b : Value) : Prop := ∀ g, a.ownBlock = some g → b.ownBlock = some g → False
theorem Apart.symm {a b : Value} (h : Apart a b) : Apart b a := fun g x y => h g y x
theorem Apart.app {w : World} {a a' b : Value} (h : Apart a b) (hb : ∀ g, b.ownBlock = some g → g < w.heap.size) (ha : a'.ownBlock = a.ownBlock ∨ a'.ownBlock = some (w.heap.size + 1)) : Apart a' b := fun g x y => by
  rcases ha with e | e
  · exact h g (by rw [← e]; exact x) y
  · rw [e] at x; injection x with x; have := hb g y; omega
set_option maxHeartbeats 800000 in
theorem s_l29Asked (f : Cnf) (v : Value) (k : Int) (w : World) (h : Rd_Cnf w v f) (b : Bd_Cnf f) :
    Calls Try.prog 54 #[v, .int .i64 k] w (RetX w (.bool (askB f k))) := by
  obtain ⟨A, c, rfl⟩ := h.form
  have X0 : Hid (Ext w (w.alloc (.cells #[.int .i64 f.n, .slice A f.cs.length c] 31))) := hd (Ext.new _ _)
  have HV := hd (h.ext X0.out)
  have HB := hd b
  clear h b
  have HB0 := hd (blk_new (w := w) (.cells #[.int .i64 f.n, .slice A f.cs.length c] 31) rfl)
  obtain ⟨q, hq⟩ : ∃ q, goodB f = q := ⟨_, rfl⟩
  have HQ := hd hq
  clear hq
  obtain ⟨p, hp⟩ : ∃ p, inB k 0 f.cs.length = p := ⟨_, rfl⟩
  have HP := hd hp
  clear hp
  go_enter Try.func54, Try.ntmps54
  go_wp2_with fail
  refine (rtx (s_l2Good f _ _ HV.out HB.out) HQ).mono ?_
  rintro e w1 ⟨rfl, hx1⟩
  obtain ⟨c0, c1⟩ := blk2 (hx1.heap HB0.out)
  have X1 := hd (X0.out.trans hx1)
  clear hx1
  cases q
  · go_wp2
    go_ret
    exact RetX.mk (by unfold askB; rw [HQ.out]; rfl) X1.out
  · go_wp2_with fail
    refine (rt (s_l1In _ _ _ _) HP).mono ?_
    rintro e w1 ⟨rfl, rfl⟩
    go_wp2
    go_ret
    exact RetX.mk (by unfold askB; rw [HQ.out, HP.out]; rfl) X1.out
set_option maxRecDepth 100000 in
set_option maxHeartbeats 3200000 in
theorem s_l29Sides (f : Cnf) (v : Value) (k : Nat) (w : World) (h : Rd_Cnf w v f) (b : Bd_Cnf f) (hg : goodB f = true) (hk : k ≤ f.cs.length) :
    Calls Try.prog 57 #[v, .int .i64 k] w (fun e w' => ∃ u0 u1 u2, e = .returned (.tuple #[u0, u1, u2]) ∧ OwnI w' w.heap.size 3 u0 (leftV f k f.n.toNat) ∧ OwnI w' w.heap.size 3 u1 (rightV f k f.n.toNat) ∧ OwnI w' w.heap.size 3 u2 (bothV f k f.n.toNat) ∧ Ext w w') := by
  obtain ⟨hn0, hn12, -, -⟩ := good_inv hg
  obtain ⟨A, c, rfl⟩ := h.form
  obtain ⟨n, cs⟩ := f
  simp only at *
  obtain ⟨m, rfl⟩ := Int.eq_ofNat_of_zero_le hn0
  rw [Int.toNat_natCast]
  have X0 : Hid (Ext w (w.alloc (.cells #[.int .i64 (m : Int), .slice A cs.length c] 31))) := hd (Ext.new _ _)
  have HV := hd (h.ext X0.out)
  have HB := hd b
  have HK := hd hk
  have HB0 := hd (blk_new (w := w) (.cells #[.int .i64 (m : Int), .slice A cs.length c] 31) rfl)
  have E1 : Hid (OwnI ((w.alloc (.cells #[.int .i64 (m : Int), .slice A cs.length c] 31)).alloc (.cells #[] 3)) (w.heap.size + 1) 3 (.slice (some ⟨w.heap.size + 1, 0, none⟩) 0 0) []) := hd (ownI_emp' (by simp) (Nat.le_refl _))
  have E2 : Hid (OwnI (((w.alloc (.cells #[.int .i64 (m : Int), .slice A cs.length c] 31)).alloc (.cells #[] 3)).alloc (.cells #[] 3)) (w.heap.size + 1) 3 (.slice (some ⟨w.heap.size + 1 + 1, 0, none⟩) 0 0) []) := hd (ownI_emp' (by simp) (by omega))
  have E3 : Hid (OwnI ((((w.alloc (.cells #[.int .i64 (m : Int), .slice A cs.length c] 31)).alloc (.cells #[] 3)).alloc (.cells #[] 3)).alloc (.cells #[] 3)) (w.heap.size + 1) 3 (.slice (some ⟨w.heap.size + 1 + 1 + 1, 0, none⟩) 0 0) []) := hd (ownI_emp' (by simp) (by omega))
  clear h b hk hg hn0
  go_enter Try.func57, Try.ntmps57
  go_wp2
  go_loopw [10, 7, 8, 9] (fun i a b2 d wr => ∃ j : Nat, j ≤ m ∧ i = .int .i64 ((j : Int) + 1) ∧ OwnI wr (w.heap.size + 1) 3 a (leftV ⟨m, cs⟩ k j) ∧ OwnI wr (w.heap.size + 1) 3 b2 (rightV ⟨m, cs⟩ k j) ∧ OwnI wr (w.heap.size + 1) 3 d (bothV ⟨m, cs⟩ k j) ∧ Apart a b2 ∧ Apart a d ∧ Apart b2 d ∧ Ext (w.alloc (.cells #[.int .i64 (m : Int), .slice A cs.length c] 31)) wr) (fun i _ _ _ _ => m + 1 - (intOf i).toNat)
  case atStart =>
    refine ⟨0, by omega, rfl, ?_, ?_, ?_, ?_, ?_, ?_, ?_⟩
    · exact OwnI.ext E1.out (by exact (Ext.new _ _).alloc _)
    · exact OwnI.ext E2.out (by exact (Ext.new _ _))
    · exact E3.out
    · intro g x y; simp [Value.ownBlock] at x y; omega
    · intro g x y; simp [Value.ownBlock] at x y; omega
    · intro g x y; simp [Value.ownBlock] at x y; omega
    · exact ((Ext.new _ _).alloc _).alloc _
  case round =>
    obtain ⟨j, hj, rfl, hoa, hob, hod, ab, ad, bd, hx⟩ := hrel
    have HX := hd hx
    have HOA := hd hoa
    have HOB := hd hob
    have HOD := hd hod
    have AB := hd ab
    have AD := hd ad
    have BD := hd bd
    obtain ⟨c0, c1⟩ := blk2 (hx.heap HB0.out)
    clear hx hoa hob hod ab ad bd
    have la : (leftV ⟨m, cs⟩ k j).length ≤ j := filt_len _ j
    have lb : (rightV ⟨m, cs⟩ k j).length ≤ j := filt_len _ j
    have ld : (bothV ⟨m, cs⟩ k j).length ≤ j := filt_len _ j
    by_cases hlt : j < m
    · obtain ⟨p, hp⟩ : ∃ p, inS (cs.take k) ((j : Int) + 1) = p := ⟨_, rfl⟩
      obtain ⟨q, hq⟩ : ∃ q, inS (cs.drop k) ((j : Int) + 1) = q := ⟨_, rfl⟩
      have HP : Hid (inS (cs.take k) ((j : Int) + 1) = p ∧ inS (cs.drop k) ((j : Int) + 1) = q) := hd ⟨hp, hq⟩
      clear hp hq
      go_wp2_with fail
      refine (s_l29Left ⟨m, cs⟩ _ k ((j : Int) + 1) _ (HV.out.ext HX.out) HB.out HK.out (by omega)).mono ?_
      rintro e w1 ⟨rfl, hx1⟩
      rw [HP.out.1, HP.out.2]
      have HX1 := hd (HX.out.trans hx1)
      have OA := hd (HOA.out.ext hx1)
      have OB := hd (HOB.out.ext hx1)
      have OD := hd (HOD.out.ext hx1)
      have hs1 : w.heap.size + 1 ≤ w1.heap.size := by have := HX1.out.size; simpa using this
      clear hx1 HX HOA HOB HOD c0 c1
      cases p <;> cases q
      · have EA : Hid (leftV ⟨m, cs⟩ k (j + 1) = leftV ⟨m, cs⟩ k j) := hd (filt_no (by rw [HP.out.1, HP.out.2]; rfl))
        have EB : Hid (rightV ⟨m, cs⟩ k (j + 1) = rightV ⟨m, cs⟩ k j) := hd (filt_no (by rw [HP.out.1, HP.out.2]; rfl))
        have ED : Hid (bothV ⟨m, cs⟩ k (j + 1) = bothV ⟨m, cs⟩ k j) := hd (filt_no (by rw [HP.out.1, HP.out.2]; rfl))
        go_wp2
        go_roundw
        case rel => exact ⟨j + 1, by omega, by go_num, by rw [EA.out]; exact OA.out, by rw [EB.out]; exact OB.out, by rw [ED.out]; exact OD.out, AB.out, AD.out, BD.out, HX1.out⟩
        case measure => simp [intOf]; omega
      · have EA : Hid (leftV ⟨m, cs⟩ k (j + 1) = leftV ⟨m, cs⟩ k j) := hd (filt_no (by rw [HP.out.1, HP.out.2]; rfl))
        have EB : Hid (rightV ⟨m, cs⟩ k (j + 1) = rightV ⟨m, cs⟩ k j ++ [(j : Int) + 1]) := hd (filt_yes (by rw [HP.out.1, HP.out.2]; rfl))
        have ED : Hid (bothV ⟨m, cs⟩ k (j + 1) = bothV ⟨m, cs⟩ k j) := hd (filt_no (by rw [HP.out.1, HP.out.2]; rfl))
        go_wp2_with (at_builtin; refine appI w1 OB.out rfl _ _ rfl _ (by rfl) (by rfl) (by omega) hs1 ?_; intro v' w2 ho2 hg2 hb2)
        go_roundw
        case rel => exact ⟨j + 1, by omega, by go_num, by rw [EA.out]; exact own_app' OA.out hg2 AB.out, by rw [EB.out]; exact ho2, by rw [ED.out]; exact own_app' OD.out hg2 BD.out.symm, (AB.out.symm.app (own_lt OA.out) hb2).symm, AD.out, BD.out.app (own_lt OD.out) hb2, ext_app HX1.out hg2 (fun g hg => by have := ownI_ge OB.out g hg; simpa using this)⟩
        case measure => simp [intOf]; omega
      · have EA : Hid (leftV ⟨m, cs⟩ k (j + 1) = leftV ⟨m, cs⟩ k j ++ [(j : Int) + 1]) := hd (filt_yes (by rw [HP.out.1, HP.out.2]; rfl))
        have EB : Hid (rightV ⟨m, cs⟩ k (j + 1) = rightV ⟨m, cs⟩ k j) := hd (filt_no (by rw [HP.out.1, HP.out.2]; rfl))
        have ED : Hid (bothV ⟨m, cs⟩ k (j + 1) = bothV ⟨m, cs⟩ k j) := hd (filt_no (by rw [HP.out.1, HP.out.2]; rfl))
        go_wp2_with (at_builtin; refine appI w1 OA.out rfl _ _ rfl _ (by rfl) (by rfl) (by omega) hs1 ?_; intro v' w2 ho2 hg2 hb2)
        go_roundw
        case rel => exact ⟨j + 1, by omega, by go_num, by rw [EA.out]; exact ho2, by rw [EB.out]; exact own_app' OB.out hg2 AB.out.symm, by rw [ED.out]; exact own_app' OD.out hg2 AD.out.symm, AB.out.app (own_lt OB.out) hb2, AD.out.app (own_lt OD.out) hb2, BD.out, ext_app HX1.out hg2 (fun g hg => by have := ownI_ge OA.out g hg; simpa using this)⟩
        case measure => simp [intOf]; omega
      · have EA : Hid (leftV ⟨m, cs⟩ k (j + 1) = leftV ⟨m, cs⟩ k j) := hd (filt_no (by rw [HP.out.1, HP.out.2]; rfl))
        have EB : Hid (rightV ⟨m, cs⟩ k (j + 1) = rightV ⟨m, cs⟩ k j) := hd (filt_no (by rw [HP.out.1, HP.out.2]; rfl))
        have ED : Hid (bothV ⟨m, cs⟩ k (j + 1) = bothV ⟨m, cs⟩ k j ++ [(j : Int) + 1]) := hd (filt_yes (by rw [HP.out.1, HP.out.2]; rfl))
        go_wp2_with (at_builtin; refine appI w1 OD.out rfl _ _ rfl _ (by rfl) (by rfl) (by omega) hs1 ?_; intro v' w2 ho2 hg2 hb2)
        go_roundw
        case rel => exact ⟨j + 1, by omega, by go_num, by rw [EA.out]; exact own_app' OA.out hg2 AD.out, by rw [EB.out]; exact own_app' OB.out hg2 BD.out, by rw [ED.out]; exact ho2, AB.out, (AD.out.symm.app (own_lt OA.out) hb2).symm, (BD.out.symm.app (own_lt OB.out) hb2).symm, ext_app HX1.out hg2 (fun g hg => by have := ownI_ge OD.out g hg; simpa using this)⟩
        case measure => simp [intOf]; omega
    · obtain rfl : j = m := by omega
      go_wp2
      exact bodyPost_ret (v := .tuple #[_, _, _]) (by simp [results, Try.results57, go_sem]) rfl ⟨_, _, _, rfl, own_rebase HOA.out (by omega), own_rebase HOB.out (by omega), own_rebase HOD.out (by omega), X0.out.trans HX.out⟩
end Go.Proofs.Ytjeeffmpfdhppaa
