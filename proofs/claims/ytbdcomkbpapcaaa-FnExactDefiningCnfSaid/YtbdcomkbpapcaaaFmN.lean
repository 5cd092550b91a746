import Derived.Test.YtbdcomkbpapcaaaMg6
/-
  The reference's l22Before and l22Put. Condition: at most 2^20 texts.
-/

namespace Go.Proofs.Ytbdcomkbpapcaaa
open Go.RowKit Go.Sort
theorem s_l22Before (x y : Bs) (w : World) : Calls Try.prog 126 #[.string ⟨x.toArray⟩, .string ⟨y.toArray⟩] w (Ret w (.bool (befB x y))) := by
  have HF : Hid (befB x y = (decide (x.length < y.length) || (decide (x.length = y.length) && Op.bytesLess x y))) := hd rfl
  have e1 : (⟨x.toArray⟩ : ByteArray).size = x.length := rfl
  have e2 : (⟨y.toArray⟩ : ByteArray).size = y.length := rfl
  by_cases h1 : x.length = y.length
  · have g1 : ((x.length : Int) != (y.length : Int)) = false := by simp; omega
    have hb : Hid (befB x y = Op.bytesLess x y) := hd (by rw [HF.out, decide_eq_false (by omega), decide_eq_true h1]; rfl)
    have t1 : (⟨x.toArray⟩ : ByteArray).toList = x := by rw [Lib.toList_data]
    have t2 : (⟨y.toArray⟩ : ByteArray).toList = y := by rw [Lib.toList_data]
    clear h1
    go_enter Try.func126, Try.ntmps126
    go_wp2
    go_ret
    exact Ret.mk (by rw [hb.out]; rfl)
  · have g1 : ((x.length : Int) != (y.length : Int)) = true := by simp; omega
    have hb : Hid (befB x y = decide (x.length < y.length)) := hd (by rw [HF.out, decide_eq_false h1, Bool.false_and, Bool.or_false])
    clear h1
    go_enter Try.func126, Try.ntmps126
    go_wp2
    go_ret
    exact Ret.mk (by rw [hb.out]; rfl)
/-- A slice of strings cut at k. -/
theorem rdS_take {w : World} {a : Addr} {k n c : Nat} {xs : List Bs} (h : Rd_StringS w (.slice (some a) n c) xs) (hk : k ≤ xs.length) : Rd_StringS w (.slice (some a) k c) (xs.take k) := by
  obtain ⟨hl, A', c', hv, h1, h2, hc⟩ := h
  injection hv with e1 e2 e3
  subst e1; subst e2; subst e3
  have hlt : (xs.take k).length = k := by rw [List.length_take]; omega
  refine ⟨by simp [hlt], some a, c, by rw [hlt], by rw [hlt]; omega, h2, fun j u hu => hc j u ?_⟩
  have e : strs (xs.take k) = (strs xs).take k := by simp [strs]
  rw [e, List.getElem?_take] at hu
  split at hu
  · exact hu
  · cases hu
theorem rdS_drop {w : World} {a : Addr} {k n c : Nat} {xs : List Bs} (h : Rd_StringS w (.slice (some a) n c) xs) (hk : k ≤ xs.length) : Rd_StringS w (.slice (some (a.add k)) (n - k) (c - k)) (xs.drop k) := by
  obtain ⟨hl, A', c', hv, h1, h2, hc⟩ := h
  injection hv with e1 e2 e3
  subst e1; subst e2; subst e3
  refine ⟨by simp, some (a.add k), c - k, by rw [List.length_drop], by rw [List.length_drop]; omega, by unfold maxLen at *; omega, fun j u hu => ?_⟩
  have e : strs (xs.drop k) = (strs xs).drop k := by simp [strs]
  rw [e, List.getElem?_drop] at hu
  obtain ⟨a', ha', hcell⟩ := hc (k + j) u hu
  cases ha'
  refine ⟨_, rfl, ?_⟩
  rw [show (a.add k).add j = a.add (k + j) from Addr.add_add a k j]
  exact hcell
theorem rdS_dropZ {w : World} {A : Option Addr} {k c : Nat} {xs : List Bs} (hk : xs.length ≤ k) (hc : c ≤ maxLen) : Rd_StringS w (.slice A 0 c) (xs.drop k) := by
  rw [List.drop_eq_nil_of_le hk]
  exact ⟨rfl, A, c, rfl, Nat.zero_le _, hc, fun j u hu => by simp [strs] at hu⟩
theorem heap_n3S (w : World) (o o' : Obj) : ((w.alloc o).alloc o').heap[w.heap.size + 1]? = some o' := by simpa using heap_n1 (w.alloc o) o'
theorem ownS_at {w : World} {base b : Nat} (h : w.heap[b]? = some (.cells #[] 9 (0, 0))) (hb : base ≤ b) : OwnS w base (.slice (some ⟨b, 0, none⟩) 0 0) [] :=
  ⟨rfl, .inr ⟨b, 0, #[], rfl, hb, h, Nat.le_refl _, Nat.zero_le _, rfl, rfl⟩⟩
theorem rdS_kept {w w' : World} {row : Option Nat} {b : Nat} {u : Bs} {e : TypeId} {fr : Nat × Nat} (hg : w.grownBy w' row) (h : w.heap[b]? = some (.cells #[.string ⟨u.toArray⟩] e fr)) (hne : row ≠ some b) : Rd_StringS w' (.slice (some ⟨b, 0, none⟩) 1 1) [u] :=
  rdS_one ((hg.block b (Array.getElem?_eq_some_iff.1 h).1 (fun e => hne e.symm)).trans h)
set_option maxRecDepth 100000 in
set_option maxHeartbeats 3200000 in
theorem s_l22PutN (t : Bs) (w : World) (lo : Nat) (hlo : lo ≤ w.heap.size) : Calls Try.prog 89 #[.slice none 0 0, .string ⟨t.toArray⟩] w (fun e w' => ∃ u, e = .returned u ∧ OwnS w' lo u [t] ∧ Ext w w') := by
  have HZ : Hid (Rd_StringS w (.slice none 0 0) []) := hd (Rd.nil w 1)
  have HP : Hid (([t] : List Bs) = ([] : List Bs) ++ [t] ++ []) := hd rfl
  go_enter Try.func89, Try.ntmps89
  go_wp2
  refine wp_loop_rounds 1 ?_; rw [rounds_succ]; go_wp2
  go_wp2_with fail
  obtain ⟨wo, rfl⟩ : ∃ wo : World, wo = w := ⟨_, rfl⟩
  go_region_held3 (fun w' => Ext wo w') ((repeat (first | assumption | exact Ext.refl _ | apply Ext.drew | refine Ext.alloc ?_ _)))
    (first
      | (refine stepSS _ (v := .slice (some ⟨_, 0, none⟩) 0 0) (src := .slice none 0 0) (xs := []) (ys := ([] : List Bs)) (base := wo.heap.size) ?_ ?_ rfl (.tmp 33) (.tmp 36) rfl (by rfl) (by rfl) (by first | (simp; done) | (simp; omega) | omega) (by first | (simp; done) | (simp; omega) | omega) ?_
         · refine ownS_at ?_ (by first | (simp; done) | (simp; omega) | omega)
           first | with_reducible exact heap_n1 _ _ | with_reducible exact heap_n2 _ _ _ | with_reducible exact heap_n3S _ _ _ | exact heap_n1 _ _ | exact heap_n2 _ _ _ | exact heap_n3S _ _ _
         · go_split_ands; exact HZ.out.ext (by assumption)
         intro u1 w1 ho1 hg1 hb1
         have X1 : Ext wo w1 := ext_appS (by go_split_ands; assumption) hg1 (fun g hg => by cases hg; first | (simp; done) | (simp; omega)))
      | (refine stepSS _ (v := u1) (src := .slice (some ⟨_, 0, none⟩) 1 1) (xs := ([] : List Bs)) (ys := [t]) (base := wo.heap.size) ?_ ?_ rfl (.tmp 37) (.tmp 39) rfl (by rfl) (by rfl) (by first | (simp; done) | (simp; omega) | omega) (by first | exact X1.size | exact (X1.alloc _).size) ?_
         · first | exact ho1 | exact own_ext ho1 (Ext.new _ _)
         · first | exact rdS_one (heap_n1 _ _) | exact rdS_kept hg1 (heap_n2 _ _ _) (fun h => by have h' := Option.some.inj h; simp at h'; try omega) | exact rdS_kept hg1 (heap_n3S _ _ _) (fun h => by have h' := Option.some.inj h; simp at h'; try omega)
         intro u2 w2 ho2 hg2 hb2
         have X2 : Ext wo w2 := ext_appS (by first | exact X1 | exact X1.alloc _) hg2 (fun g hg => ownS_ge ho1 g hg))
      | (refine stepSS _ (v := u2) (src := .slice none 0 0) (xs := ([] : List Bs) ++ [t]) (ys := ([] : List Bs)) (base := wo.heap.size) ho2 (HZ.out.ext X2) rfl (.tmp 40) (.tmp 43) rfl (by rfl) (by rfl) (by first | (simp; done) | (simp; omega) | omega) X2.size ?_
         intro u3 w3 ho3 hg3 hb3
         have X3 : Ext wo w3 := ext_appS X2 hg3 (fun g hg => ownS_ge ho2 g hg)))
  all_goals
    go_wp2
    go_ret
    exact ⟨_, rfl, by rw [HP.out]; exact own_rebase ho3 hlo, X3⟩
set_option maxRecDepth 100000 in
set_option maxHeartbeats 6400000 in
theorem s_l22Put (L : List Bs) (v : Value) (t : Bs) (w : World) (lo : Nat) (h : OwnS w lo v L) (hlo : lo ≤ w.heap.size) (hl : L.length ≤ 1048576) : Calls Try.prog 89 #[v, .string ⟨t.toArray⟩] w (fun e w' => ∃ u, e = .returned u ∧ OwnS w' lo u (putL L t) ∧ Ext w w') := by
  rcases own_form h with ⟨rfl, hn, hcs⟩ | ⟨g, c, rfl, hb, hg, hnc, hcm⟩
  · obtain rfl : L = [] := List.eq_nil_of_length_eq_zero hn
    exact s_l22PutN t w lo hlo
  have HO := hd h
  have ha : Hid (Rd_StringS w (.slice (some ⟨g, 0, none⟩) L.length c) L) := hd (own_rd h)
  have HPE := hd (putL_eq t L)
  have HPL := hd (plcL_le t L)
  have HPD := hd (plcL_drop L t)
  clear h
  go_enter Try.func89, Try.ntmps89
  go_wp2
  go_loop [5] (fun i => ∃ k : Nat, k ≤ plcL L t ∧ i = .int .i64 (k : Int)) (fun i => L.length + 1 - (intOf i).toNat)
  case atStart => exact ⟨0, by omega, rfl⟩
  case round =>
    obtain ⟨k, hk, rfl⟩ := hrel
    have hpl := HPL.out
    have HT := hd (rdS_take ha.out (k := k) (by omega))
    by_cases hlt : k < L.length
    · obtain ⟨a, hea, hc0⟩ := Rd_StringS.at_ ha hlt
      cases hea
      rw [Addr.add_lit, Nat.zero_add] at hc0
      have key := HPD.out k hlt hk
      have HGE : Hid (L[k]? = some L[k]) := hd (List.getElem?_eq_getElem hlt)
      rcases key with ⟨hb, hk2⟩ | ⟨hb, hk2⟩
      · have HB := hd hb
        clear hb
        generalize L[k] = y at *
        go_wp2_with fail
        refine (rt (s_l22Before y t _) HB).mono ?_
        rintro e w1 ⟨rfl, rfl⟩
        go_wp2
        go_round
        case rel => exact ⟨k + 1, hk2, by go_num⟩
        case measure => simp [intOf]; omega
      · have HB := hd hb
        have HK := hd hk2
        clear hb hk2
        generalize L[k] = y at *
        by_cases hyt : y = t
        · subst hyt
          have HP : Hid (putL L y = L) := hd (by rw [HPE.out, ← HK.out, HGE.out, if_pos rfl])
          have q1 : ((⟨y.toArray⟩ : ByteArray).toList == (⟨y.toArray⟩ : ByteArray).toList) = true := by simp
          go_wp2_with fail
          refine (rt (s_l22Before y y _) HB).mono ?_
          rintro e w1 ⟨rfl, rfl⟩
          go_wp2
          go_ret
          exact ⟨_, rfl, by rw [HP.out]; exact HO.out, Ext.refl _⟩
        · have HP : Hid (putL L t = L.take k ++ [t] ++ L.drop k) := hd (by rw [HPE.out, ← HK.out, HGE.out, if_neg (fun h => hyt (Option.some.inj h))])
          have q1 : (y == t) = false := by simpa using hyt
          have HD := hd (rdS_drop ha.out (k := k) (by omega))
          rw [Addr.add_lit, Nat.zero_add] at HD
          have hkc : k ≤ c := by omega
          have hkn : ¬ c = k := by omega
          have n1 : (k : Int) ≤ (L.length : Int) := by omega
          have hlT : (L.take k).length ≤ 1048576 := by rw [List.length_take]; omega
          have hlD : (L.drop k).length ≤ 1048576 := by rw [List.length_drop]; omega
          clear hyt
          go_wp2_with fail
          refine (rt (s_l22Before y t _) HB).mono ?_
          rintro e w1 ⟨rfl, rfl⟩
          go_wp2_with fail
          obtain ⟨wo, rfl⟩ : ∃ wo : World, wo = w := ⟨_, rfl⟩
          go_region_held3 (fun w' => Ext wo w') ((repeat (first | assumption | exact Ext.refl _ | apply Ext.drew | refine Ext.alloc ?_ _)))
            (first
              | (refine stepSS _ (v := .slice (some ⟨_, 0, none⟩) 0 0) (src := .slice (some ⟨g, 0, none⟩) k c) (xs := []) (ys := L.take k) (base := wo.heap.size) ?_ ?_ rfl (.tmp 33) (.tmp 36) rfl (by rfl) (by rfl) (by first | (simp; done) | (simp; omega) | omega) (by first | (simp; done) | (simp; omega) | omega) ?_
                 · refine ownS_at ?_ (by first | (simp; done) | (simp; omega) | omega)
                   first | with_reducible exact heap_n1 _ _ | with_reducible exact heap_n2 _ _ _ | with_reducible exact heap_n3S _ _ _ | exact heap_n1 _ _ | exact heap_n2 _ _ _ | exact heap_n3S _ _ _
                 · go_split_ands; exact HT.out.ext (by assumption)
                 intro u1 w1 ho1 hg1 hb1
                 have X1 : Ext wo w1 := ext_appS (by go_split_ands; assumption) hg1 (fun g hg => by cases hg; first | (simp; done) | (simp; omega)))
              | (refine stepSS _ (v := u1) (src := .slice (some ⟨_, 0, none⟩) 1 1) (xs := L.take k) (ys := [t]) (base := wo.heap.size) ?_ ?_ rfl (.tmp 37) (.tmp 39) rfl (by rfl) (by rfl) (by first | (simp; done) | (simp; omega) | omega) (by first | exact X1.size | exact (X1.alloc _).size) ?_
                 · first | exact ho1 | exact own_ext ho1 (Ext.new _ _)
                 · first | exact rdS_one (heap_n1 _ _) | exact rdS_kept hg1 (heap_n2 _ _ _) (fun h => by have h' := Option.some.inj h; simp at h'; try omega) | exact rdS_kept hg1 (heap_n3S _ _ _) (fun h => by have h' := Option.some.inj h; simp at h'; try omega)
                 intro u2 w2 ho2 hg2 hb2
                 have X2 : Ext wo w2 := ext_appS (by first | exact X1 | exact X1.alloc _) hg2 (fun g hg => ownS_ge ho1 g hg))
              | (refine stepSS _ (v := u2) (src := .slice (some ⟨g, k, none⟩) (L.length - k) (c - k)) (xs := L.take k ++ [t]) (ys := L.drop k) (base := wo.heap.size) ho2 (HD.out.ext X2) rfl (.tmp 40) (.tmp 43) rfl (by rfl) (by rfl) (by first | (simp; done) | (simp; omega) | omega) X2.size ?_
                 intro u3 w3 ho3 hg3 hb3
                 have X3 : Ext wo w3 := ext_appS X2 hg3 (fun g hg => ownS_ge ho2 g hg)))
          all_goals
            go_wp2
            go_ret
            exact ⟨_, rfl, by rw [HP.out]; exact own_rebase ho3 hlo, X3⟩
    · obtain rfl : k = L.length := by omega
      have HP : Hid (putL L t = L.take L.length ++ [t] ++ L.drop L.length) := hd (by rw [HPE.out, show plcL L t = L.length from by omega, List.getElem?_eq_none (Nat.le_refl _), if_neg (by simp)])
      have hlT : (L.take L.length).length ≤ 1048576 := by rw [List.length_take]; omega
      have hlD : (L.drop L.length).length ≤ 1048576 := by rw [List.length_drop]; omega
      by_cases hcl : c = L.length
      · subst hcl
        have HD := hd (rdS_dropZ (w := w) (A := some ⟨g, 0, none⟩) (k := L.length) (c := 0) (xs := L) (Nat.le_refl _) (Nat.zero_le _))
        go_wp2_with fail
        obtain ⟨wo, rfl⟩ : ∃ wo : World, wo = w := ⟨_, rfl⟩
        go_region_held3 (fun w' => Ext wo w') ((repeat (first | assumption | exact Ext.refl _ | apply Ext.drew | refine Ext.alloc ?_ _)))
          (first
            | (refine stepSS _ (v := .slice (some ⟨_, 0, none⟩) 0 0) (src := .slice (some ⟨g, 0, none⟩) L.length L.length) (xs := []) (ys := L.take L.length) (base := wo.heap.size) ?_ ?_ rfl (.tmp 33) (.tmp 36) rfl (by rfl) (by rfl) (by first | (simp; done) | (simp; omega) | omega) (by first | (simp; done) | (simp; omega) | omega) ?_
               · refine ownS_at ?_ (by first | (simp; done) | (simp; omega) | omega)
                 first | with_reducible exact heap_n1 _ _ | with_reducible exact heap_n2 _ _ _ | with_reducible exact heap_n3S _ _ _ | exact heap_n1 _ _ | exact heap_n2 _ _ _ | exact heap_n3S _ _ _
               · go_split_ands; exact HT.out.ext (by assumption)
               intro u1 w1 ho1 hg1 hb1
               have X1 : Ext wo w1 := ext_appS (by go_split_ands; assumption) hg1 (fun g hg => by cases hg; first | (simp; done) | (simp; omega)))
            | (refine stepSS _ (v := u1) (src := .slice (some ⟨_, 0, none⟩) 1 1) (xs := L.take L.length) (ys := [t]) (base := wo.heap.size) ?_ ?_ rfl (.tmp 37) (.tmp 39) rfl (by rfl) (by rfl) (by first | (simp; done) | (simp; omega) | omega) (by first | exact X1.size | exact (X1.alloc _).size) ?_
               · first | exact ho1 | exact own_ext ho1 (Ext.new _ _)
               · first | exact rdS_one (heap_n1 _ _) | exact rdS_kept hg1 (heap_n2 _ _ _) (fun h => by have h' := Option.some.inj h; simp at h'; try omega) | exact rdS_kept hg1 (heap_n3S _ _ _) (fun h => by have h' := Option.some.inj h; simp at h'; try omega)
               intro u2 w2 ho2 hg2 hb2
               have X2 : Ext wo w2 := ext_appS (by first | exact X1 | exact X1.alloc _) hg2 (fun g hg => ownS_ge ho1 g hg))
            | (refine stepSS _ (v := u2) (src := .slice (some ⟨g, 0, none⟩) 0 0) (xs := L.take L.length ++ [t]) (ys := L.drop L.length) (base := wo.heap.size) ho2 (HD.out.ext X2) rfl (.tmp 40) (.tmp 43) rfl (by rfl) (by rfl) (by first | (simp; done) | (simp; omega) | omega) X2.size ?_
               intro u3 w3 ho3 hg3 hb3
               have X3 : Ext wo w3 := ext_appS X2 hg3 (fun g hg => ownS_ge ho2 g hg)))
        all_goals
          go_wp2
          go_ret
          exact ⟨_, rfl, by rw [HP.out]; exact own_rebase ho3 hlo, X3⟩
      · have hkc : L.length ≤ c := hnc
        have HD := hd (rdS_dropZ (w := w) (A := some ⟨g, L.length, none⟩) (k := L.length) (c := c - L.length) (xs := L) (Nat.le_refl _) (by unfold maxLen at *; omega))
        go_wp2_with fail
        obtain ⟨wo, rfl⟩ : ∃ wo : World, wo = w := ⟨_, rfl⟩
        go_region_held3 (fun w' => Ext wo w') ((repeat (first | assumption | exact Ext.refl _ | apply Ext.drew | refine Ext.alloc ?_ _)))
          (first
            | (refine stepSS _ (v := .slice (some ⟨_, 0, none⟩) 0 0) (src := .slice (some ⟨g, 0, none⟩) L.length c) (xs := []) (ys := L.take L.length) (base := wo.heap.size) ?_ ?_ rfl (.tmp 33) (.tmp 36) rfl (by rfl) (by rfl) (by first | (simp; done) | (simp; omega) | omega) (by first | (simp; done) | (simp; omega) | omega) ?_
               · refine ownS_at ?_ (by first | (simp; done) | (simp; omega) | omega)
                 first | with_reducible exact heap_n1 _ _ | with_reducible exact heap_n2 _ _ _ | with_reducible exact heap_n3S _ _ _ | exact heap_n1 _ _ | exact heap_n2 _ _ _ | exact heap_n3S _ _ _
               · go_split_ands; exact HT.out.ext (by assumption)
               intro u1 w1 ho1 hg1 hb1
               have X1 : Ext wo w1 := ext_appS (by go_split_ands; assumption) hg1 (fun g hg => by cases hg; first | (simp; done) | (simp; omega)))
            | (refine stepSS _ (v := u1) (src := .slice (some ⟨_, 0, none⟩) 1 1) (xs := L.take L.length) (ys := [t]) (base := wo.heap.size) ?_ ?_ rfl (.tmp 37) (.tmp 39) rfl (by rfl) (by rfl) (by first | (simp; done) | (simp; omega) | omega) (by first | exact X1.size | exact (X1.alloc _).size) ?_
               · first | exact ho1 | exact own_ext ho1 (Ext.new _ _)
               · first | exact rdS_one (heap_n1 _ _) | exact rdS_kept hg1 (heap_n2 _ _ _) (fun h => by have h' := Option.some.inj h; simp at h'; try omega) | exact rdS_kept hg1 (heap_n3S _ _ _) (fun h => by have h' := Option.some.inj h; simp at h'; try omega)
               intro u2 w2 ho2 hg2 hb2
               have X2 : Ext wo w2 := ext_appS (by first | exact X1 | exact X1.alloc _) hg2 (fun g hg => ownS_ge ho1 g hg))
            | (refine stepSS _ (v := u2) (src := .slice (some ⟨g, L.length, none⟩) 0 (c - L.length)) (xs := L.take L.length ++ [t]) (ys := L.drop L.length) (base := wo.heap.size) ho2 (HD.out.ext X2) rfl (.tmp 40) (.tmp 43) rfl (by rfl) (by rfl) (by first | (simp; done) | (simp; omega) | omega) X2.size ?_
               intro u3 w3 ho3 hg3 hb3
               have X3 : Ext wo w3 := ext_appS X2 hg3 (fun g hg => ownS_ge ho2 g hg)))
        all_goals
          go_wp2
          go_ret
          exact ⟨_, rfl, by rw [HP.out]; exact own_rebase ho3 hlo, X3⟩
end Go.Proofs.Ytbdcomkbpapcaaa
