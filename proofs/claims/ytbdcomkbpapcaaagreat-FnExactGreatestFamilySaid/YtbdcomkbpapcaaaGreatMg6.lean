import Derived.Test.YtbdcomkbpapcaaaGreatMg2
import Derived.Test.YtbdcomkbpapcaaaGreatApp2
import Derived.Test.YtbdcomkbpapcaaaGreatSeedP
import Derived.Test.YtbdcomkbpapcaaaGreatMg4
import Derived.Test.YtbdcomkbpapcaaaGreatMg3
/-
  spec.l1Own: the copy of a list. Condition: at most 2^30 numbers.
-/
/-
  spec.l2Put: a literal is put into a clause. Conditions: numbers within 1000, at most 2^20 of them.
-/

namespace Go.Proofs.YtbdcomkbpapcaaaGreat
open Go.RowKit
theorem s_l1Own (xs : List Int) (v : Value) (w : World) (h : RdI w v xs) (hl : xs.length ≤ 1073741824) :
    Calls Tryz.prog 27 #[v] w (RetI w 3 xs) := by
  have HE : Hid (OwnI (w.alloc (.cells #[] 3)) w.heap.size 3 (.slice (some ⟨w.heap.size, 0, none⟩) 0 0) []) := hd (own_lit w _ 3 1 #[] 0 (Nat.le_refl _) (Nat.zero_le _) rfl)
  have HR := hd (h.ext (Ext.new w (.cells #[] 3)))
  obtain ⟨A, c, rfl, -⟩ := h.form
  clear h
  go_enter Tryz.func27, Tryz.ntmps27
  go_wp2_with (at_builtin; refine appSI _ HE.out HR.out rfl _ _ rfl (by rfl) (by rfl) (by simp; omega) (by simp) ?_; intro v' w1 ho1 hg1 _)
  go_ret
  exact ⟨_, rfl, by simpa using ho1, ext_appS (Ext.new _ _) hg1 (fun g hg => by cases hg; exact Nat.le_refl _)⟩
end Go.Proofs.YtbdcomkbpapcaaaGreat
namespace Go.Proofs.YtbdcomkbpapcaaaGreat
open Go.RowKit Seed
theorem posA_eq {c : List Int} {l : Int} : ∀ {k : Nat}, (∀ y ∈ c.take k, absI y < absI l) → (∀ h : k < c.length, ¬ absI c[k] < absI l) → k ≤ c.length → posA c l = k := by
  induction c with
  | nil => intro k _ _ hk; have : k = 0 := by simpa using hk
           subst this; rfl
  | cons x xs ih =>
    intro k h1 h2 hk
    cases k with
    | zero =>
      have := h2 (by simp)
      show (if _ then _ else _) = _
      rw [if_neg (by simpa using this)]
    | succ k =>
      have hx := h1 x (by simp)
      show (if _ then _ else _) = _
      rw [if_pos hx, ih (k := k) (fun y hy => h1 y (by simp [hy])) (fun h => by have := h2 (by simpa using h); simpa using this) (by simpa using hk)]
set_option maxRecDepth 100000 in
set_option maxHeartbeats 3200000 in
theorem s_l2Put (l : List Int) (a : Addr) (c : Nat) (x : Int) (w : World) (h : RdI w (.slice (some a) l.length c) l) (hl : l.length ≤ 1048576) (hb : Hid (∀ y ∈ l, -1000 ≤ y ∧ y ≤ 1000)) (hx : -1000 ≤ x ∧ x ≤ 1000) :
    Calls Tryz.prog 48 #[.slice (some a) l.length c, .int .i64 x] w (RetI w 3 (putA l x)) := by
  obtain ⟨A0, c0, e0, h1, h2, ha⟩ := h.form
  injection e0 with e1 _ e3
  subst e1
  subst e3
  have HA := hd h
  clear h
  go_enter Tryz.func48, Tryz.ntmps48
  go_wp2
  go_loop [5] (fun i => ∃ k : Nat, k ≤ l.length ∧ i = .int .i64 k ∧ Hid (∀ y ∈ l.take k, absI y < absI x)) (fun i => l.length - (intOf i).toNat)
  case atStart => exact ⟨0, by omega, rfl, hd (fun y hy => by simp at hy)⟩
  case round =>
    obtain ⟨k, hk, rfl, HL⟩ := hrel
    by_cases hlt : k < l.length
    · obtain ⟨a', ha', hc⟩ := RdI.at_ HA hlt
      injection ha' with ha'
      subst ha'
      have HT : Hid (l.take (k + 1) = l.take k ++ [l[k]]) := hd (List.take_succ_eq_append_getElem hlt)
      have hyb := hb.out _ (List.getElem_mem hlt)
      have HPE : Hid (¬ absI l[k] < absI x → posA l x = k) := hd fun hn => posA_eq HL.out (fun _ => hn) hk
      generalize l[k] = y at *
      have hk0 : (k : Int) < (l.length : Int) := by omega
      go_wp2_with fail
      refine (s_l2Var y _ hyb).mono ?_
      rintro e w1 ⟨rfl, rfl⟩
      go_wp2_with fail
      refine (s_l2Var x _ hx).mono ?_
      rintro e w1 ⟨rfl, rfl⟩
      by_cases hyx : absI y < absI x
      · go_wp2
        go_round
        case rel => exact ⟨k + 1, by omega, by go_num, hd (fun z hz => by rw [HT.out] at hz; rcases List.mem_append.1 hz with hz | hz; exact HL.out z hz; simp at hz; subst hz; exact hyx)⟩
        case measure => simp [intOf]; omega
      · have HP : Hid (putA l x = l.take k ++ [x] ++ l.drop k) := hd (by unfold putA; rw [HPE.out (by omega)]; simp)
        have R1 := hd (rdI_take HA.out rfl hk)
        have R2 := hd (rdI_drop HA.out rfl hk)
        go_wp2_with fail
        clear hc
        have e1 : (0 : Int) ≤ (k : Int) := by omega
        have e2 : (k : Int) ≤ (l.length : Int) := by omega
        have hkc : k ≤ c := by omega
        have hkn : ¬ c = k := by omega
        obtain ⟨wo, rfl⟩ : ∃ wo : World, wo = w := ⟨_, rfl⟩
        go_region_held3 (fun w' => Ext wo w') (first | assumption | exact Ext.refl _ | (repeat (first | assumption | exact Ext.refl _ | apply Ext.drew | refine Ext.alloc ?_ _)))
          (first
            | (go_simp; go_at_call 27; refine (s_l1Own (l.take k) _ _ (R1.out.ext (by go_split_ands; assumption)) (by simp; omega)).mono ?_
               rintro e w1 ⟨u1, rfl, hu1, hx1⟩
               have X1 : Ext wo w1 := Ext.trans (by go_split_ands; assumption) hx1
               have ho1 : OwnI w1 wo.heap.size 3 u1 (l.take k) := own_rebase hu1 (by first | (simp; done) | exact Ext.size (by go_split_ands; assumption)))
            | (refine stepSI _ (v := u1) (src := .slice (some ⟨_, 0, none⟩) 1 1) (xs := l.take k) (ys := [x]) (base := wo.heap.size) ?_ ?_ rfl (.tmp 25) (.tmp 27) rfl (by rfl) (by rfl) (by simp; omega) (by first | exact X1.size | exact (X1.alloc _).size) ?_
               · first | exact ho1 | exact own_ext ho1 (Ext.new _ _)
               · first | exact rdI_at (heap_n1 _ _) | exact rdI_at (hx1.heap (heap_n1 _ _)) | exact rdI_at (hx1.heap (Ext.heap (Ext.refl _).drew (heap_n1 _ _)))
               intro u2 w2 ho2 hg2 hb2
               have X2 : Ext wo w2 := ext_appS (by first | exact X1 | exact X1.alloc _) hg2 (fun g hg => ownI_ge ho1 g hg))
            | (refine stepSI _ (v := u2) (src := (.slice (some (a.add k)) (l.length - k) (c - k))) (xs := l.take k ++ [x]) (ys := l.drop k) (base := wo.heap.size) ho2 (R2.out.ext X2) rfl (.tmp 28) (.tmp 31) rfl (by rfl) (by rfl) (by simp; omega) X2.size ?_
               intro u3 w3 ho3 hg3 hb3
               have X3 : Ext wo w3 := ext_appS X2 hg3 (fun g hg => ownI_ge ho2 g hg)))
        all_goals
          go_wp2
          go_ret
          exact ⟨_, rfl, by rw [HP.out]; exact ho3, X3⟩
    · have HPE : Hid (posA l x = k) := hd (posA_eq HL.out (fun h => absurd h hlt) hk)
      have HP : Hid (putA l x = l.take k ++ [x] ++ l.drop k) := hd (by unfold putA; rw [HPE.out]; simp)
      have HK : Hid (k = l.length) := hd (by omega)
      by_cases hcap : c = k
      · subst hcap
        have R1 := hd (rdI_take HA.out rfl hk)
        have R2 : Hid (RdI w (.slice (some a) 0 0) (l.drop c)) := hd (rdI_dropZ HK.out (by omega))
        obtain ⟨k, hkk⟩ : ∃ k, k = c := ⟨_, rfl⟩
        go_wp2_with fail
        have e1 : (0 : Int) ≤ (c : Int) := by omega
        have e2 : (c : Int) ≤ (l.length : Int) := by omega
        subst hkk
        obtain ⟨wo, rfl⟩ : ∃ wo : World, wo = w := ⟨_, rfl⟩
        go_region_held3 (fun w' => Ext wo w') (first | assumption | exact Ext.refl _ | (repeat (first | assumption | exact Ext.refl _ | apply Ext.drew | refine Ext.alloc ?_ _)))
          (first
            | (go_simp; go_at_call 27; refine (s_l1Own (l.take k) _ _ (R1.out.ext (by go_split_ands; assumption)) (by simp; omega)).mono ?_
               rintro e w1 ⟨u1, rfl, hu1, hx1⟩
               have X1 : Ext wo w1 := Ext.trans (by go_split_ands; assumption) hx1
               have ho1 : OwnI w1 wo.heap.size 3 u1 (l.take k) := own_rebase hu1 (by first | (simp; done) | exact Ext.size (by go_split_ands; assumption)))
            | (refine stepSI _ (v := u1) (src := .slice (some ⟨_, 0, none⟩) 1 1) (xs := l.take k) (ys := [x]) (base := wo.heap.size) ?_ ?_ rfl (.tmp 25) (.tmp 27) rfl (by rfl) (by rfl) (by simp; omega) (by first | exact X1.size | exact (X1.alloc _).size) ?_
               · first | exact ho1 | exact own_ext ho1 (Ext.new _ _)
               · first | exact rdI_at (heap_n1 _ _) | exact rdI_at (hx1.heap (heap_n1 _ _)) | exact rdI_at (hx1.heap (Ext.heap (Ext.refl _).drew (heap_n1 _ _)))
               intro u2 w2 ho2 hg2 hb2
               have X2 : Ext wo w2 := ext_appS (by first | exact X1 | exact X1.alloc _) hg2 (fun g hg => ownI_ge ho1 g hg))
            | (refine stepSI _ (v := u2) (src := (.slice (some a) 0 0)) (xs := l.take k ++ [x]) (ys := l.drop k) (base := wo.heap.size) ho2 (R2.out.ext X2) rfl (.tmp 28) (.tmp 31) rfl (by rfl) (by rfl) (by simp; omega) X2.size ?_
               intro u3 w3 ho3 hg3 hb3
               have X3 : Ext wo w3 := ext_appS X2 hg3 (fun g hg => ownI_ge ho2 g hg)))
        all_goals
          go_wp2
          go_ret
          exact ⟨_, rfl, by rw [HP.out]; exact ho3, X3⟩
      · have R1 := hd (rdI_take HA.out rfl hk)
        have R2 := hd (rdI_drop HA.out rfl hk)
        go_wp2_with fail
        have e1 : (0 : Int) ≤ (k : Int) := by omega
        have e2 : (k : Int) ≤ (l.length : Int) := by omega
        have hkc : k ≤ c := by omega
        have hkn : ¬ c = k := by omega
        obtain ⟨wo, rfl⟩ : ∃ wo : World, wo = w := ⟨_, rfl⟩
        go_region_held3 (fun w' => Ext wo w') (first | assumption | exact Ext.refl _ | (repeat (first | assumption | exact Ext.refl _ | apply Ext.drew | refine Ext.alloc ?_ _)))
          (first
            | (go_simp; go_at_call 27; refine (s_l1Own (l.take k) _ _ (R1.out.ext (by go_split_ands; assumption)) (by simp; omega)).mono ?_
               rintro e w1 ⟨u1, rfl, hu1, hx1⟩
               have X1 : Ext wo w1 := Ext.trans (by go_split_ands; assumption) hx1
               have ho1 : OwnI w1 wo.heap.size 3 u1 (l.take k) := own_rebase hu1 (by first | (simp; done) | exact Ext.size (by go_split_ands; assumption)))
            | (refine stepSI _ (v := u1) (src := .slice (some ⟨_, 0, none⟩) 1 1) (xs := l.take k) (ys := [x]) (base := wo.heap.size) ?_ ?_ rfl (.tmp 25) (.tmp 27) rfl (by rfl) (by rfl) (by simp; omega) (by first | exact X1.size | exact (X1.alloc _).size) ?_
               · first | exact ho1 | exact own_ext ho1 (Ext.new _ _)
               · first | exact rdI_at (heap_n1 _ _) | exact rdI_at (hx1.heap (heap_n1 _ _)) | exact rdI_at (hx1.heap (Ext.heap (Ext.refl _).drew (heap_n1 _ _)))
               intro u2 w2 ho2 hg2 hb2
               have X2 : Ext wo w2 := ext_appS (by first | exact X1 | exact X1.alloc _) hg2 (fun g hg => ownI_ge ho1 g hg))
            | (refine stepSI _ (v := u2) (src := (.slice (some (a.add k)) (l.length - k) (c - k))) (xs := l.take k ++ [x]) (ys := l.drop k) (base := wo.heap.size) ho2 (R2.out.ext X2) rfl (.tmp 28) (.tmp 31) rfl (by rfl) (by rfl) (by simp; omega) X2.size ?_
               intro u3 w3 ho3 hg3 hb3
               have X3 : Ext wo w3 := ext_appS X2 hg3 (fun g hg => ownI_ge ho2 g hg)))
        all_goals
          go_wp2
          go_ret
          exact ⟨_, rfl, by rw [HP.out]; exact ho3, X3⟩
end Go.Proofs.YtbdcomkbpapcaaaGreat
