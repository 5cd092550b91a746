/-
  A number is put into an ascending list (spec.l1Put). Conditions: list lengths up to 2^20.
-/
import Derived.Test.YtjeeffmpfdhppaaC1
import Derived.Test.YtjeeffmpfdhppaaApp2
import Derived.Deep.DrawnRows
namespace Go.Proofs.Ytjeeffmpfdhppaa
open Go.RowKit
def putI : List Int → Int → List Int
  | [], x => [x]
  | y :: r, x => if y < x then y :: putI r x else if y = x then y :: r else x :: y :: r
theorem putI_mem (l : List Int) (x z : Int) : z ∈ putI l x ↔ z = x ∨ z ∈ l := by
  induction l with
  | nil => simp [putI]
  | cons y r ih =>
    unfold putI
    split
    · simp [ih]
      constructor
      · rintro (h | h | h) <;> simp [h]
      · rintro (h | h | h) <;> simp [h]
    · split
      · rename_i h; subst h; simp
      · simp
def Sor : List Int → Prop
  | [] => True
  | y :: r => (∀ z ∈ r, y < z) ∧ Sor r
theorem putI_sor (l : List Int) (x : Int) (h : Sor l) : Sor (putI l x) := by
  induction l with
  | nil => exact ⟨fun z hz => by simp at hz, trivial⟩
  | cons y r ih =>
    unfold putI
    split
    · rename_i h1
      refine ⟨fun z hz => ?_, ih h.2⟩
      rcases (putI_mem _ _ _).1 hz with rfl | hz
      · exact h1
      · exact h.1 z hz
    · split
      · exact h
      · rename_i h1 h2
        refine ⟨fun z hz => ?_, h⟩
        rcases List.mem_cons.1 hz with rfl | hz
        · omega
        · have := h.1 z hz; omega
theorem putI_len (l : List Int) (x : Int) (h : Sor l) : (putI l x).length = if x ∈ l then l.length else l.length + 1 := by
  induction l with
  | nil => simp [putI]
  | cons y r ih =>
    unfold putI
    split
    · rename_i h1
      have : x ≠ y := by omega
      simp only [List.length_cons, ih h.2, List.mem_cons, this, false_or]
      split <;> rfl
    · split
      · rename_i h1 h2; subst h2; simp
      · rename_i h1 h2
        have : ¬ x ∈ y :: r := fun hx => by
          rcases List.mem_cons.1 hx with rfl | hx
          · exact h2 rfl
          · have := h.1 x hx; omega
        rw [if_neg this]; rfl
theorem putI_le (l : List Int) (x : Int) : (putI l x).length ≤ l.length + 1 := by
  induction l with
  | nil => simp [putI]
  | cons y r ih =>
    unfold putI
    split
    · simp; omega
    · split <;> simp
theorem putI_less {l : List Int} {x : Int} : ∀ {k : Nat}, (∀ y ∈ l.take k, y < x) → putI l x = l.take k ++ putI (l.drop k) x := by
  intro k
  induction k generalizing l with
  | zero => intro _; rfl
  | succ k ih =>
    intro h
    cases l with
    | nil => simp [putI]
    | cons y r =>
      have hy := h y (by simp)
      have := ih (l := r) (fun z hz => h z (by simp [hz]))
      simp only [List.take_succ_cons, List.drop_succ_cons, List.cons_append]
      rw [← this, putI, if_pos hy]
/-- Parts of a slice. -/
theorem rdI_take {w : World} {a : Addr} {n c k : Nat} {xs : List Int} (h : RdI w (.slice (some a) n c) xs) (hn : n = xs.length) (hk : k ≤ n) : RdI w (.slice (some a) k c) (xs.take k) := by
  obtain ⟨hl, A', c', hv, h1, h2, hc⟩ := h
  injection hv with e1 e2 e3
  subst e1; subst e3
  refine ⟨by simp, some a, c, by simp; omega, by simp; omega, h2, fun j u hu => ?_⟩
  have hj := (List.getElem?_eq_some_iff.1 hu).1
  simp at hj
  refine hc j u ?_
  rw [← hu]
  simp only [ints, List.getElem?_map]
  rw [List.getElem?_take_of_lt (by omega)]
theorem rdI_drop {w : World} {a : Addr} {n c k : Nat} {xs : List Int} (h : RdI w (.slice (some a) n c) xs) (hn : n = xs.length) (hk : k ≤ n) : RdI w (.slice (some (a.add k)) (n - k) (c - k)) (xs.drop k) := by
  obtain ⟨hl, A', c', hv, h1, h2, hc⟩ := h
  injection hv with e1 e2 e3
  subst e1; subst e3
  refine ⟨by simp, some (a.add k), c - k, by simp [hn], by simp; omega, by omega, fun j u hu => ⟨_, rfl, ?_⟩⟩
  have hu' : (ints xs)[k + j]? = some u := by rw [← hu]; simp [ints, List.getElem?_map, List.getElem?_drop]
  obtain ⟨a', ha', hcell⟩ := hc (k + j) u hu'
  injection ha' with ha'
  subst ha'
  have e : (a.add k).add j = a.add (k + j) := by
    unfold Addr.add
    by_cases hi : k = 0 <;> by_cases hj : j = 0 <;> simp [hi, hj, Nat.add_assoc]
  rw [e]; exact hcell
theorem rdI_dropZ {w : World} {A : Option Addr} {k c : Nat} {xs : List Int} (hk : k = xs.length) (hc : c ≤ maxLen) : RdI w (.slice A 0 c) (xs.drop k) := by
  subst hk
  rw [List.drop_eq_nil_of_le (Nat.le_refl _)]
  exact ⟨rfl, A, c, rfl, Nat.zero_le _, hc, fun j u hu => by simp [ints] at hu⟩
theorem heap_n3' (w : World) (o o' : Obj) : ((w.alloc o).alloc o').heap[w.heap.size + 1]? = some o' := by simpa using heap_n1 (w.alloc o) o'
attribute [local go_sem ↓] Go.wp_at_zero Go.wp_at_succ
set_option maxRecDepth 100000 in
set_option maxHeartbeats 3200000 in
theorem s_l1Put (l : List Int) (v : Value) (x : Int) (w : World) (lo : Nat) (h : OwnI w lo 3 v l) (hl : l.length ≤ 1048576) (hlo : lo ≤ w.heap.size) :
    Calls Try.prog 139 #[v, .int .i64 x] w (fun e w' => ∃ u, e = .returned u ∧ OwnI w' lo 3 u (putI l x) ∧ Ext w w') := by
  have HO := hd h
  obtain ⟨A, c, rfl, h1, h2, ha⟩ := h.rd.form
  clear h
  go_enter Try.func139, Try.ntmps139
  go_wp2
  go_loop [5] (fun i => ∃ k : Nat, k ≤ l.length ∧ i = .int .i64 k ∧ Hid (∀ y ∈ l.take k, y < x)) (fun i => l.length - (intOf i).toNat)
  case atStart => exact ⟨0, by omega, rfl, hd (fun y hy => by simp at hy)⟩
  case round =>
    obtain ⟨k, hk, rfl, HL⟩ := hrel
    by_cases hlt : k < l.length
    · obtain ⟨a, rfl, hc⟩ := RdI.at_ ha hlt
      have HT : Hid (l.take (k + 1) = l.take k ++ [l[k]]) := hd (List.take_succ_eq_append_getElem hlt)
      have HDR : Hid (l.drop k = l[k] :: l.drop (k + 1)) := hd (drop_cons hlt)
      generalize l[k] = y at *
      by_cases hyx : y < x
      · go_wp2
        go_round
        case rel => exact ⟨k + 1, by omega, by go_num, hd (fun z hz => by rw [HT.out] at hz; rcases List.mem_append.1 hz with hz | hz; exact HL.out z hz; simp at hz; subst hz; exact hyx)⟩
        case measure => simp [intOf]; omega
      · by_cases hyx2 : y = x
        · have HP : Hid (putI l x = l) := hd (by rw [putI_less HL.out, HDR.out, putI, if_neg hyx, if_pos hyx2, ← HDR.out, List.take_append_drop])
          have hb : (y == x) = true := by simp [hyx2]
          clear hyx2
          go_wp2
          go_ret
          exact ⟨_, rfl, by rw [HP.out]; exact HO.out, Ext.refl _⟩
        · have HP : Hid (putI l x = l.take k ++ [x] ++ l.drop k) := hd (by rw [putI_less HL.out, HDR.out, putI, if_neg hyx, if_neg hyx2]; simp)
          have hb : (y == x) = false := by simp [hyx2]
          clear hyx2
          have HV := hd ha.out
          have R1 := hd (rdI_take ha.out rfl hk)
          have R2 := hd (rdI_drop ha.out rfl hk)
          go_wp2_with fail
          clear hc
          have e1 : (0 : Int) ≤ (k : Int) := by omega
          have e2 : (k : Int) ≤ (l.length : Int) := by omega
          have hkc : k ≤ c := by omega
          have hkn : ¬ c = k := by omega
          obtain ⟨wo, rfl⟩ : ∃ wo : World, wo = w := ⟨_, rfl⟩
          go_region_held3 (fun w' => Ext wo w') (first | assumption | exact Ext.refl _ | (repeat (first | assumption | exact Ext.refl _ | apply Ext.drew | refine Ext.alloc ?_ _)))
            (first
              | (refine stepSI _ (v := .slice (some ⟨_, 0, none⟩) 0 0) (src := .slice (some a) k c) (xs := []) (ys := l.take k) (base := wo.heap.size) ?_ ?_ rfl (.tmp 33) (.tmp 36) rfl (by rfl) (by rfl) (by simp; omega) (by first | (simp; done) | (simp; omega) | omega) ?_
                 · refine ownI_at ?_ (by first | (simp; done) | (simp; omega) | omega)
                   first | with_reducible exact heap_n1 _ _ | with_reducible exact heap_n2 _ _ _ | with_reducible exact heap_n3' _ _ _ | exact heap_n1 _ _ | exact heap_n2 _ _ _ | exact heap_n3' _ _ _
                 · go_split_ands; exact R1.out.ext (by assumption)
                 intro u1 w1 ho1 hg1 hb1
                 have X1 : Ext wo w1 := ext_appS (by go_split_ands; assumption) hg1 (fun g hg => by cases hg; first | (simp; done) | (simp; omega)))
              | (refine stepSI _ (v := u1) (src := .slice (some ⟨_, 0, none⟩) 1 1) (xs := [] ++ l.take k) (ys := [x]) (base := wo.heap.size) ?_ ?_ rfl (.tmp 37) (.tmp 39) rfl (by rfl) (by rfl) (by simp; omega) (by first | exact X1.size | exact (X1.alloc _).size) ?_
                 · first | exact ho1 | exact own_ext ho1 (Ext.new _ _)
                 · first | exact rdI_at (heap_n1 _ _) | exact rdI_kept hg1 (heap_n2 _ _ _) (fun h => by have h' := Option.some.inj h; simp at h'; try omega) | exact rdI_kept hg1 (heap_n3' _ _ _) (fun h => by have h' := Option.some.inj h; simp at h'; try omega)
                 intro u2 w2 ho2 hg2 hb2
                 have X2 : Ext wo w2 := ext_appS (by first | exact X1 | exact X1.alloc _) hg2 (fun g hg => ownI_ge ho1 g hg))
              | (refine stepSI _ (v := u2) (src := .slice (some (a.add k)) (l.length - k) (c - k)) (xs := [] ++ l.take k ++ [x]) (ys := l.drop k) (base := wo.heap.size) ho2 (R2.out.ext X2) rfl (.tmp 40) (.tmp 43) rfl (by rfl) (by rfl) (by simp; omega) X2.size ?_
                 intro u3 w3 ho3 hg3 hb3
                 have X3 : Ext wo w3 := ext_appS X2 hg3 (fun g hg => ownI_ge ho2 g hg)))
          all_goals
            go_wp2
            go_ret
            exact ⟨_, rfl, by rw [HP.out]; exact own_rebase ho3 hlo, X3⟩
    · cases A with
      | none =>
        have hl0 : l = [] := by
          cases l with
          | nil => rfl
          | cons y r => obtain ⟨a, h, _⟩ := RdI.at_ ha (k := 0) (by simp); cases h
        subst hl0
        obtain rfl : k = 0 := by simpa using hk
        have hc0 : c = 0 := by
          rcases own_form HO.out with ⟨hv, _⟩ | ⟨g, cap, hv, _⟩
          · injection hv with _ _ hv
          · injection hv with hv; cases hv
        subst hc0
        go_wp2_with fail
        obtain ⟨wo, rfl⟩ : ∃ wo : World, wo = w := ⟨_, rfl⟩
        go_region_held3 (fun w' => Ext wo w') (first | assumption | exact Ext.refl _ | (repeat (first | assumption | exact Ext.refl _ | apply Ext.drew | refine Ext.alloc ?_ _)))
          (first
            | (refine stepSI _ (v := .slice (some ⟨_, 0, none⟩) 0 0) (src := .slice none 0 0) (xs := []) (ys := []) (base := wo.heap.size) ?_ (Rd.nil _ _) rfl (.tmp 33) (.tmp 36) rfl (by rfl) (by rfl) (by simp) (by first | (simp; done) | (simp; omega) | omega) ?_
               · refine ownI_at ?_ (by first | (simp; done) | (simp; omega) | omega)
                 first | with_reducible exact heap_n1 _ _ | with_reducible exact heap_n2 _ _ _ | with_reducible exact heap_n3' _ _ _ | exact heap_n1 _ _ | exact heap_n2 _ _ _ | exact heap_n3' _ _ _
               intro u1 w1 ho1 hg1 hb1
               have X1 : Ext wo w1 := ext_appS (by go_split_ands; assumption) hg1 (fun g hg => by cases hg; first | (simp; done) | (simp; omega)))
            | (refine stepSI _ (v := u1) (src := .slice (some ⟨_, 0, none⟩) 1 1) (xs := [] ++ []) (ys := [x]) (base := wo.heap.size) ?_ ?_ rfl (.tmp 37) (.tmp 39) rfl (by rfl) (by rfl) (by simp) (by first | exact X1.size | exact (X1.alloc _).size) ?_
               · first | exact ho1 | exact own_ext ho1 (Ext.new _ _)
               · first | exact rdI_at (heap_n1 _ _) | exact rdI_kept hg1 (heap_n2 _ _ _) (fun h => by have h' := Option.some.inj h; simp at h'; try omega) | exact rdI_kept hg1 (heap_n3' _ _ _) (fun h => by have h' := Option.some.inj h; simp at h'; try omega)
               intro u2 w2 ho2 hg2 hb2
               have X2 : Ext wo w2 := ext_appS (by first | exact X1 | exact X1.alloc _) hg2 (fun g hg => ownI_ge ho1 g hg))
            | (refine stepSI _ (v := u2) (src := .slice none 0 0) (xs := [] ++ [] ++ [x]) (ys := []) (base := wo.heap.size) ho2 (Rd.nil _ _) rfl (.tmp 40) (.tmp 43) rfl (by rfl) (by rfl) (by simp) X2.size ?_
               intro u3 w3 ho3 hg3 hb3
               have X3 : Ext wo w3 := ext_appS X2 hg3 (fun g hg => ownI_ge ho2 g hg)))
        all_goals
          go_wp2
          go_ret
          exact ⟨_, rfl, own_rebase ho3 hlo, X3⟩
      | some a =>
        have HK : Hid (k = l.length) := hd (by omega)
        have HP : Hid (putI l x = l.take k ++ [x] ++ l.drop k) := hd (by rw [putI_less HL.out, HK.out, List.drop_eq_nil_of_le (Nat.le_refl _)]; simp [putI])
        by_cases hcap : c = k
        · subst hcap
          have HV := hd ha.out
          have R1 := hd (rdI_take ha.out rfl hk)
          have R2 : Hid (RdI w (.slice (some a) 0 0) (l.drop c)) := hd (rdI_dropZ HK.out (by omega))
          go_wp2_with fail
          have e1 : (0 : Int) ≤ (c : Int) := by omega
          have e2 : (c : Int) ≤ (l.length : Int) := by omega
          obtain ⟨wo, rfl⟩ : ∃ wo : World, wo = w := ⟨_, rfl⟩
          go_region_held3 (fun w' => Ext wo w') (first | assumption | exact Ext.refl _ | (repeat (first | assumption | exact Ext.refl _ | apply Ext.drew | refine Ext.alloc ?_ _)))
            (first
              | (refine stepSI _ (v := .slice (some ⟨_, 0, none⟩) 0 0) (src := .slice (some a) c c) (xs := []) (ys := l.take c) (base := wo.heap.size) ?_ ?_ rfl (.tmp 33) (.tmp 36) rfl (by rfl) (by rfl) (by simp; omega) (by first | (simp; done) | (simp; omega) | omega) ?_
                 · refine ownI_at ?_ (by first | (simp; done) | (simp; omega) | omega)
                   first | with_reducible exact heap_n1 _ _ | with_reducible exact heap_n2 _ _ _ | with_reducible exact heap_n3' _ _ _ | exact heap_n1 _ _ | exact heap_n2 _ _ _ | exact heap_n3' _ _ _
                 · go_split_ands; exact R1.out.ext (by assumption)
                 intro u1 w1 ho1 hg1 hb1
                 have X1 : Ext wo w1 := ext_appS (by go_split_ands; assumption) hg1 (fun g hg => by cases hg; first | (simp; done) | (simp; omega)))
              | (refine stepSI _ (v := u1) (src := .slice (some ⟨_, 0, none⟩) 1 1) (xs := [] ++ l.take c) (ys := [x]) (base := wo.heap.size) ?_ ?_ rfl (.tmp 37) (.tmp 39) rfl (by rfl) (by rfl) (by simp; omega) (by first | exact X1.size | exact (X1.alloc _).size) ?_
                 · first | exact ho1 | exact own_ext ho1 (Ext.new _ _)
                 · first | exact rdI_at (heap_n1 _ _) | exact rdI_kept hg1 (heap_n2 _ _ _) (fun h => by have h' := Option.some.inj h; simp at h'; try omega) | exact rdI_kept hg1 (heap_n3' _ _ _) (fun h => by have h' := Option.some.inj h; simp at h'; try omega)
                 intro u2 w2 ho2 hg2 hb2
                 have X2 : Ext wo w2 := ext_appS (by first | exact X1 | exact X1.alloc _) hg2 (fun g hg => ownI_ge ho1 g hg))
              | (refine stepSI _ (v := u2) (src := .slice (some a) 0 0) (xs := [] ++ l.take c ++ [x]) (ys := l.drop c) (base := wo.heap.size) ho2 (R2.out.ext X2) rfl (.tmp 40) (.tmp 43) rfl (by rfl) (by rfl) (by simp; omega) X2.size ?_
                 intro u3 w3 ho3 hg3 hb3
                 have X3 : Ext wo w3 := ext_appS X2 hg3 (fun g hg => ownI_ge ho2 g hg)))
          all_goals
            go_wp2
            go_ret
            exact ⟨_, rfl, by rw [HP.out]; exact own_rebase ho3 hlo, X3⟩
        · have HV := hd ha.out
          have R1 := hd (rdI_take ha.out rfl hk)
          have R2 := hd (rdI_drop ha.out rfl hk)
          go_wp2_with fail
          have e1 : (0 : Int) ≤ (k : Int) := by omega
          have e2 : (k : Int) ≤ (l.length : Int) := by omega
          have hkc : k ≤ c := by omega
          have hkn : ¬ c = k := by omega
          obtain ⟨wo, rfl⟩ : ∃ wo : World, wo = w := ⟨_, rfl⟩
          go_region_held3 (fun w' => Ext wo w') (first | assumption | exact Ext.refl _ | (repeat (first | assumption | exact Ext.refl _ | apply Ext.drew | refine Ext.alloc ?_ _)))
            (first
              | (refine stepSI _ (v := .slice (some ⟨_, 0, none⟩) 0 0) (src := .slice (some a) k c) (xs := []) (ys := l.take k) (base := wo.heap.size) ?_ ?_ rfl (.tmp 33) (.tmp 36) rfl (by rfl) (by rfl) (by simp; omega) (by first | (simp; done) | (simp; omega) | omega) ?_
                 · refine ownI_at ?_ (by first | (simp; done) | (simp; omega) | omega)
                   first | with_reducible exact heap_n1 _ _ | with_reducible exact heap_n2 _ _ _ | with_reducible exact heap_n3' _ _ _ | exact heap_n1 _ _ | exact heap_n2 _ _ _ | exact heap_n3' _ _ _
                 · go_split_ands; exact R1.out.ext (by assumption)
                 intro u1 w1 ho1 hg1 hb1
                 have X1 : Ext wo w1 := ext_appS (by go_split_ands; assumption) hg1 (fun g hg => by cases hg; first | (simp; done) | (simp; omega)))
              | (refine stepSI _ (v := u1) (src := .slice (some ⟨_, 0, none⟩) 1 1) (xs := [] ++ l.take k) (ys := [x]) (base := wo.heap.size) ?_ ?_ rfl (.tmp 37) (.tmp 39) rfl (by rfl) (by rfl) (by simp; omega) (by first | exact X1.size | exact (X1.alloc _).size) ?_
                 · first | exact ho1 | exact own_ext ho1 (Ext.new _ _)
                 · first | exact rdI_at (heap_n1 _ _) | exact rdI_kept hg1 (heap_n2 _ _ _) (fun h => by have h' := Option.some.inj h; simp at h'; try omega) | exact rdI_kept hg1 (heap_n3' _ _ _) (fun h => by have h' := Option.some.inj h; simp at h'; try omega)
                 intro u2 w2 ho2 hg2 hb2
                 have X2 : Ext wo w2 := ext_appS (by first | exact X1 | exact X1.alloc _) hg2 (fun g hg => ownI_ge ho1 g hg))
              | (refine stepSI _ (v := u2) (src := .slice (some (a.add k)) (l.length - k) (c - k)) (xs := [] ++ l.take k ++ [x]) (ys := l.drop k) (base := wo.heap.size) ho2 (R2.out.ext X2) rfl (.tmp 40) (.tmp 43) rfl (by rfl) (by rfl) (by simp; omega) X2.size ?_
                 intro u3 w3 ho3 hg3 hb3
                 have X3 : Ext wo w3 := ext_appS X2 hg3 (fun g hg => ownI_ge ho2 g hg)))
          all_goals
            go_wp2
            go_ret
            exact ⟨_, rfl, by rw [HP.out]; exact own_rebase ho3 hlo, X3⟩
end Go.Proofs.Ytjeeffmpfdhppaa
