import Derived.Test.YtbdcomkbpapcaaaGreatParS
/-
  The parity formula: insertion of a clause, the reference's side. Conditions: numbers within 1000, at most 10^6 rows and numbers.
-/

namespace Go.Proofs.YtbdcomkbpapcaaaGreat
open Go.RowKit
/-- What an insertion ends in: the old list, where it has the clause; else a list of the call's own with the old rows and the new one. -/
def RetIns (w : World) (v u : Value) (zs : List Row) (ys : List Int) (k : Nat) : Bool → Ending → World → Prop
  | true => fun e w' => e = .returned v ∧ ∃ n, w' = w.drewN n
  | false => fun e w' => ∃ v', e = .returned v' ∧ OutZ w' w.heap.size v' (zs.take k ++ (u, ys) :: zs.drop k) ∧ Ext w w'
theorem outZ_emp {W : World} {b lo : Nat} (h : W.heap[b]? = some (.cells #[] 37 (0, 0))) (hb : lo ≤ b) : OutZ W lo (.slice (some ⟨b, 0, none⟩) 0 0) [] :=
  ⟨rfl, .inr ⟨b, 0, #[], rfl, hb, h, Nat.le_refl _, Nat.zero_le _, rfl, rfl⟩⟩
section
variable {w : World} {lo k : Nat} {a : Addr} {n c : Nat} {zs : List Row}
theorem outZ_take (h : OutZ w lo (.slice (some a) n c) zs) (hk : k ≤ zs.length) : Rd w 1 (.slice (some a) k c) (zs.take k).length ((zs.take k).map Prod.fst) := by
  obtain ⟨hl, A', c', hv, h1, h2, hc⟩ := own_rd h
  injection hv with e1 e2 e3
  subst e1; subst e3
  refine ⟨by simp, some a, c, by simp [Nat.min_eq_left hk], by simp; omega, h2, fun j u hu => ?_⟩
  have hj := (List.getElem?_eq_some_iff.1 hu).1
  simp at hj
  rw [List.map_take] at hu
  exact hc j u (by rw [← hu, List.getElem?_take_of_lt (by omega)])
theorem outZ_drop (h : OutZ w lo (.slice (some a) n c) zs) (hk : k ≤ zs.length) : Rd w 1 (.slice (some (a.add k)) (zs.length - k) (c - k)) (zs.drop k).length ((zs.drop k).map Prod.fst) := by
  obtain ⟨hl, A', c', hv, h1, h2, hc⟩ := own_rd h
  injection hv with e1 e2 e3
  subst e1; subst e3
  refine ⟨by simp, some (a.add k), c - k, by simp, by simp; omega, by omega, fun j u hu => ⟨_, rfl, ?_⟩⟩
  rw [List.map_drop, List.getElem?_drop] at hu
  obtain ⟨a', ha', hcell⟩ := hc (k + j) u hu
  injection ha' with ha'
  subst ha'
  rw [add_add]
  exact hcell
theorem outZ_dropZ {A : Option Addr} {m : Nat} (hk : zs.length ≤ k) (hm : m ≤ maxLen) : Rd w 1 (.slice A 0 m) (zs.drop k).length ((zs.drop k).map Prod.fst) := by
  rw [List.drop_eq_nil_of_le hk]
  exact ⟨rfl, A, m, rfl, Nat.zero_le _, hm, fun j u hu => by simp at hu⟩
theorem outZ_ss (h : OutZ w lo (.slice (some a) n c) zs) (hr : ∀ z ∈ zs, RdI w z.1 z.2) : RdSS w (.slice (some a) n c) (zs.map Prod.snd) := by
  refine ⟨zs.map Prod.fst, by rw [List.length_map]; exact own_rd h, fun i xs hx => ?_⟩
  rw [List.getElem?_map, Option.map_eq_some_iff] at hx
  obtain ⟨z, hz, rfl⟩ := hx
  exact ⟨z.1, by rw [List.getElem?_map, hz]; rfl, hr z (List.mem_of_getElem? hz)⟩
end
theorem heap_n3 (w : World) (o o' : Obj) : ((w.alloc o).alloc o').heap[w.heap.size + 1]? = some o' := by
  have := heap_alloc_new (w.alloc o) o'
  simpa using this
theorem grown_one {w w1 : World} {b b' n c : Nat} {o : Obj} (hg : w.grownBy w1 (Value.slice (some ⟨b, 0, none⟩) n c).ownBlock) (h : w.heap[b']? = some o) (hne : b' ≠ b) : w1.heap[b']? = some o :=
  (hg.block b' (Array.getElem?_eq_some_iff.1 h).1 (fun e => hne (Option.some.inj e))).trans h
set_option maxRecDepth 100000 in
set_option maxHeartbeats 3200000 in
theorem s_l2Insert (zs : List Row) (ys : List Int) (lo : Nat) (a : Addr) (c : Nat) (u : Value) (w : World) (hO : OutZ w lo (.slice (some a) zs.length c) zs) (hu : RdI w u ys) (hz : Hid (∀ z ∈ zs, RdI w z.1 z.2 ∧ z.2.length ≤ 1000000 ∧ ∀ x ∈ z.2, -1000 ≤ x ∧ x ≤ 1000)) (hy : Hid (∀ x ∈ ys, -1000 ≤ x ∧ x ≤ 1000)) (hl : zs.length ≤ 1000000) (hly : ys.length ≤ 1000000) :
    Calls Tryz.prog 43 #[.slice (some a) zs.length c, u] w (RetIns w (.slice (some a) zs.length c) u zs ys (plcL (zs.map Prod.snd) ys) (foundL (zs.map Prod.snd) ys)) := by
  have HO := hd hO
  have HU := hd hu
  obtain ⟨A0, c0, rfl, -⟩ := hu.form
  have hcc : zs.length ≤ c ∧ c ≤ maxLen := by
    obtain ⟨A', c', e, h1, h2⟩ := hO.form
    injection e with _ _ e3
    subst e3
    exact ⟨h1, h2⟩
  obtain ⟨hnc, hcm⟩ := hcc
  have HV := hd (outZ_ss hO fun z h => (hz.out z h).1)
  have hk : plcL (zs.map Prod.snd) ys ≤ zs.length := by have := plcL_le (zs.map Prod.snd) ys; rwa [List.length_map] at this
  have HPL := hd fun w' (hx : Ext w w') => s_l2Place (zs.map Prod.snd) ys _ _ w' (HV.out.ext hx) (HU.out.ext hx) (hd fun cc hc => by obtain ⟨z, h, rfl⟩ := List.mem_map.1 hc; exact (hz.out z h).2) hy (by rw [List.length_map]; exact hl) hly
  have HFD : Hid (foundL (zs.map Prod.snd) ys = (decide (plcL (zs.map Prod.snd) ys < zs.length) && decide ((zs.map Prod.snd).getD (plcL (zs.map Prod.snd) ys) [] = ys))) := hd (by unfold foundL; rw [List.length_map])
  have HT1 : Hid (∀ u ∈ (zs.take (plcL (zs.map Prod.snd) ys)).map Prod.fst, u.oneCell' = true) := hd fun v hv => by
    obtain ⟨z, h, rfl⟩ := List.mem_map.1 hv
    obtain ⟨A, c, e, -⟩ := (hz.out z (List.mem_of_mem_take h)).1.form
    rw [e]; rfl
  have HT3 : Hid (∀ u ∈ (zs.drop (plcL (zs.map Prod.snd) ys)).map Prod.fst, u.oneCell' = true) := hd fun v hv => by
    obtain ⟨z, h, rfl⟩ := List.mem_map.1 hv
    obtain ⟨A, c, e, -⟩ := (hz.out z (List.mem_of_mem_drop h)).1.form
    rw [e]; rfl
  have HT2 : Hid (∀ v ∈ [((Value.slice A0 ys.length c0, ys) : Row)].map Prod.fst, v.oneCell' = true) := hd fun v hv => by
    obtain rfl : v = Value.slice A0 ys.length c0 := by simpa using hv
    rfl
  have HLM : Hid ((zs.map Prod.snd).length = zs.length) := hd (List.length_map _)
  clear hO hu HV
  generalize foundL (zs.map Prod.snd) ys = q at *
  generalize plcL (zs.map Prod.snd) ys = k at *
  by_cases hlt : k < zs.length
  · obtain ⟨a', ha', hc⟩ := OutZ.at_ HO hlt
    injection ha' with ha'
    subst ha'
    have HQ : Hid (decide (zs[k].2 = ys) = q) := hd (by rw [HFD.out, decide_eq_true hlt]; simp [List.getD, hlt])
    obtain ⟨hz1, hz2, -⟩ := hz.out _ (List.getElem_mem hlt)
    obtain ⟨A3, c3, e3, -⟩ := hz1.form
    have HZ1 := hd hz1
    have HZ2 := hd hz2
    have hk1 : (k : Int) < (zs.length : Int) := by omega
    rw [e3] at hc HZ1
    clear hz1 e3 hz2
    generalize zs[k].2 = zk at *
    have hcx := fun (w' : World) (hx : Ext w w') => hx.cell hc
    have HC := hd hcx
    clear hcx
    go_enter Tryz.func43, Tryz.ntmps43
    go_wp2_with fail
    refine (HPL.out _ (Ext.refl _)).mono ?_
    rintro e w1 ⟨rfl, n1, hw1⟩
    have X1 : Ext w w1 := by rw [hw1]; exact ext_drewN _ _
    have hc1 := HC.out _ X1
    have HW1 := hd hw1
    clear hc hw1
    go_wp2_with fail
    refine (rtq (s_l1Same zk ys _ _ w1 (HZ1.out.ext X1) (HU.out.ext X1) HZ2.out hly) HQ).mono ?_
    rintro e w2 ⟨rfl, n2, hw2⟩
    have X2 : Ext w w2 := by rw [hw2]; exact X1.drewN _
    have HW2 := hd hw2
    clear hw2
    cases q
    · clear HW1 HW2 hc1
      have hkc : k ≤ c := by omega
      have hkn : ¬ c = k := by omega
      have HL : Hid (∀ w' : World, Ext w2 w' → Rd w' 1 (.slice (some a) k c) (zs.take k).length ((zs.take k).map Prod.fst)) := hd fun w' hx => Rd.ext (outZ_take HO.out hk) (X2.trans hx)
      have HRR : Hid (∀ w' : World, Ext w2 w' → Rd w' 1 (.slice (some (a.add k)) (zs.length - k) (c - k)) (zs.drop k).length ((zs.drop k).map Prod.fst)) := hd fun w' hx => Rd.ext (outZ_drop HO.out hk) (X2.trans hx)
      go_wp2_with fail
      go_region_law (first
        | (refine stepZ _ (v := .slice (some ⟨_, 0, none⟩) 0 0) (lo := w2.heap.size) (zs := []) (ys := zs.take k) (outZ_emp (by first | exact heap_n1 w2 _ | exact heap_n2 w2 _ _ | exact heap_n3 w2 _ _ | exact heap_n1 _ _ | exact heap_n2 _ _ _) (by first | (simp; done) | (simp; omega) | omega)) (HL.out _ (by repeat (first | exact Ext.refl _ | apply Ext.drew | refine Ext.alloc ?_ _))) HT1.out rfl (.tmp 22) (.tmp 25) rfl (by rfl) (by rfl) (by first | (simp; done) | (simp; omega) | omega) (by first | (simp; done) | (simp; omega) | omega) ?_
           intro v1 w1 ho1 hg1 _
           have Y1 : Ext w2 w1 := ext_appS (by repeat (first | exact Ext.refl _ | apply Ext.drew | refine Ext.alloc ?_ _)) hg1 (fun g hg => by cases hg; first | (simp; done) | (simp; omega))
           obtain ⟨A1, d1, rfl⟩ := ho1.formN (n := k) (by first | (simp; done) | (simp; omega) | omega))
        | (refine stepZ _ (lo := w2.heap.size) (ys := [(Value.slice A0 ys.length c0, ys)]) (own_ext ho1 (by first | exact Ext.new _ _ | exact Ext.refl _)) (rdZ_at (us := [Value.slice A0 ys.length c0]) (by first | exact heap_n1 w1 _ | exact heap_n1 _ _ | exact grown_one hg1 (heap_n3 w2 _ _) (by first | (simp; done) | (simp; omega) | omega) | exact grown_one hg1 (heap_n2 w2 _ _) (by first | (simp; done) | (simp; omega) | omega) | exact grown_one hg1 (by first | exact heap_n1 w2 _ | exact heap_n2 w2 _ _ | exact heap_n3 w2 _ _ | exact heap_n1 _ _ | exact heap_n2 _ _ _) (by first | (simp; done) | (simp; omega) | omega)) (by first | (simp; done) | (simp; omega) | omega)) HT2.out rfl (.tmp 26) (.tmp 28) rfl (by rfl) (by rfl) (by first | (simp; done) | (simp; omega) | omega) (by have := Y1.size; simp; omega) ?_
           intro v2 w3 ho2 hg2 _
           have Y2 : Ext w2 w3 := ext_appS (by first | exact Y1 | exact Y1.alloc _) hg2 (fun g hg => (own_blocks ho1 g hg).1)
           obtain ⟨A2, d2, rfl⟩ := ho2.formN (n := k + 1) (by first | (simp; done) | (simp; omega) | omega))
        | (refine stepZ _ (lo := w2.heap.size) (ys := zs.drop k) ho2 (HRR.out _ Y2) HT3.out rfl (.tmp 29) (.tmp 32) rfl (by rfl) (by rfl) (by first | (simp; done) | (simp; omega) | omega) Y2.size ?_
           intro v3 w4 ho3 hg3 _
           have Y3 : Ext w2 w4 := ext_appS Y2 hg3 (fun g hg => (own_blocks ho2 g hg).1)))
      all_goals
        go_wp2
        go_ret
        have ho4 : OutZ w4 w2.heap.size v3 (zs.take k ++ (Value.slice A0 ys.length c0, ys) :: zs.drop k) := by simpa using ho3
        exact ⟨v3, rfl, own_rebase ho4 X2.size, X2.trans Y3⟩
    · go_wp2
      go_ret
      exact ⟨rfl, n1 + n2, by rw [HW2.out, HW1.out, World.drewN_drewN]⟩
  · obtain rfl : k = zs.length := by omega
    have HQ : Hid (q = false) := hd (by rw [HFD.out, decide_eq_false hlt]; rfl)
    obtain rfl := HQ.out
    go_enter Tryz.func43, Tryz.ntmps43
    go_wp2_with fail
    refine (HPL.out _ (Ext.refl _)).mono ?_
    rintro e w2 ⟨rfl, n1, hw2⟩
    have X2 : Ext w w2 := by rw [hw2]; exact ext_drewN _ _
    clear hw2
    rcases Nat.lt_or_ge zs.length c with hkc | hkc
    · have hkn : ¬ c = zs.length := by omega
      have HL : Hid (∀ w' : World, Ext w2 w' → Rd w' 1 (.slice (some a) zs.length c) (zs.take zs.length).length ((zs.take zs.length).map Prod.fst)) := hd fun w' hx => Rd.ext (outZ_take HO.out (Nat.le_refl _)) (X2.trans hx)
      have HRR : Hid (∀ w' : World, Ext w2 w' → Rd w' 1 (.slice (some (a.add zs.length)) 0 (c - zs.length)) (zs.drop zs.length).length ((zs.drop zs.length).map Prod.fst)) := hd fun w' hx => Rd.ext (outZ_dropZ (w := w) (Nat.le_refl _) (by omega)) (X2.trans hx)
      go_wp2_with fail
      go_region_law (first
        | (refine stepZ _ (v := .slice (some ⟨_, 0, none⟩) 0 0) (lo := w2.heap.size) (zs := []) (ys := zs.take zs.length) (outZ_emp (by first | exact heap_n1 w2 _ | exact heap_n2 w2 _ _ | exact heap_n3 w2 _ _ | exact heap_n1 _ _ | exact heap_n2 _ _ _) (by first | (simp; done) | (simp; omega) | omega)) (HL.out _ (by repeat (first | exact Ext.refl _ | apply Ext.drew | refine Ext.alloc ?_ _))) HT1.out rfl (.tmp 22) (.tmp 25) rfl (by rfl) (by rfl) (by first | (simp; done) | (simp; omega) | omega) (by first | (simp; done) | (simp; omega) | omega) ?_
           intro v1 w1 ho1 hg1 _
           have Y1 : Ext w2 w1 := ext_appS (by repeat (first | exact Ext.refl _ | apply Ext.drew | refine Ext.alloc ?_ _)) hg1 (fun g hg => by cases hg; first | (simp; done) | (simp; omega))
           obtain ⟨A1, d1, rfl⟩ := ho1.formN (n := zs.length) (by first | (simp; done) | (simp; omega) | omega))
        | (refine stepZ _ (lo := w2.heap.size) (ys := [(Value.slice A0 ys.length c0, ys)]) (own_ext ho1 (by first | exact Ext.new _ _ | exact Ext.refl _)) (rdZ_at (us := [Value.slice A0 ys.length c0]) (by first | exact heap_n1 w1 _ | exact heap_n1 _ _ | exact grown_one hg1 (heap_n3 w2 _ _) (by first | (simp; done) | (simp; omega) | omega) | exact grown_one hg1 (heap_n2 w2 _ _) (by first | (simp; done) | (simp; omega) | omega) | exact grown_one hg1 (by first | exact heap_n1 w2 _ | exact heap_n2 w2 _ _ | exact heap_n3 w2 _ _ | exact heap_n1 _ _ | exact heap_n2 _ _ _) (by first | (simp; done) | (simp; omega) | omega)) (by first | (simp; done) | (simp; omega) | omega)) HT2.out rfl (.tmp 26) (.tmp 28) rfl (by rfl) (by rfl) (by first | (simp; done) | (simp; omega) | omega) (by have := Y1.size; simp; omega) ?_
           intro v2 w3 ho2 hg2 _
           have Y2 : Ext w2 w3 := ext_appS (by first | exact Y1 | exact Y1.alloc _) hg2 (fun g hg => (own_blocks ho1 g hg).1)
           obtain ⟨A2, d2, rfl⟩ := ho2.formN (n := zs.length + 1) (by first | (simp; done) | (simp; omega) | omega))
        | (refine stepZ _ (lo := w2.heap.size) (ys := zs.drop zs.length) ho2 (HRR.out _ Y2) HT3.out rfl (.tmp 29) (.tmp 32) rfl (by rfl) (by rfl) (by first | (simp; done) | (simp; omega) | omega) Y2.size ?_
           intro v3 w4 ho3 hg3 _
           have Y3 : Ext w2 w4 := ext_appS Y2 hg3 (fun g hg => (own_blocks ho2 g hg).1)))
      all_goals
        go_wp2
        go_ret
        have ho4 : OutZ w4 w2.heap.size v3 (zs.take zs.length ++ (Value.slice A0 ys.length c0, ys) :: zs.drop zs.length) := by simpa using ho3
        exact ⟨v3, rfl, own_rebase ho4 X2.size, X2.trans Y3⟩
    · obtain rfl : c = zs.length := by omega
      have HL : Hid (∀ w' : World, Ext w2 w' → Rd w' 1 (.slice (some a) zs.length zs.length) (zs.take zs.length).length ((zs.take zs.length).map Prod.fst)) := hd fun w' hx => Rd.ext (outZ_take HO.out (Nat.le_refl _)) (X2.trans hx)
      have HRR : Hid (∀ w' : World, Ext w2 w' → Rd w' 1 (.slice (some a) 0 0) (zs.drop zs.length).length ((zs.drop zs.length).map Prod.fst)) := hd fun w' hx => Rd.ext (outZ_dropZ (w := w) (Nat.le_refl _) (by omega)) (X2.trans hx)
      go_wp2_with fail
      go_region_law (first
        | (refine stepZ _ (v := .slice (some ⟨_, 0, none⟩) 0 0) (lo := w2.heap.size) (zs := []) (ys := zs.take zs.length) (outZ_emp (by first | exact heap_n1 w2 _ | exact heap_n2 w2 _ _ | exact heap_n3 w2 _ _ | exact heap_n1 _ _ | exact heap_n2 _ _ _) (by first | (simp; done) | (simp; omega) | omega)) (HL.out _ (by repeat (first | exact Ext.refl _ | apply Ext.drew | refine Ext.alloc ?_ _))) HT1.out rfl (.tmp 22) (.tmp 25) rfl (by rfl) (by rfl) (by first | (simp; done) | (simp; omega) | omega) (by first | (simp; done) | (simp; omega) | omega) ?_
           intro v1 w1 ho1 hg1 _
           have Y1 : Ext w2 w1 := ext_appS (by repeat (first | exact Ext.refl _ | apply Ext.drew | refine Ext.alloc ?_ _)) hg1 (fun g hg => by cases hg; first | (simp; done) | (simp; omega))
           obtain ⟨A1, d1, rfl⟩ := ho1.formN (n := zs.length) (by first | (simp; done) | (simp; omega) | omega))
        | (refine stepZ _ (lo := w2.heap.size) (ys := [(Value.slice A0 ys.length c0, ys)]) (own_ext ho1 (by first | exact Ext.new _ _ | exact Ext.refl _)) (rdZ_at (us := [Value.slice A0 ys.length c0]) (by first | exact heap_n1 w1 _ | exact heap_n1 _ _ | exact grown_one hg1 (heap_n3 w2 _ _) (by first | (simp; done) | (simp; omega) | omega) | exact grown_one hg1 (heap_n2 w2 _ _) (by first | (simp; done) | (simp; omega) | omega) | exact grown_one hg1 (by first | exact heap_n1 w2 _ | exact heap_n2 w2 _ _ | exact heap_n3 w2 _ _ | exact heap_n1 _ _ | exact heap_n2 _ _ _) (by first | (simp; done) | (simp; omega) | omega)) (by first | (simp; done) | (simp; omega) | omega)) HT2.out rfl (.tmp 26) (.tmp 28) rfl (by rfl) (by rfl) (by first | (simp; done) | (simp; omega) | omega) (by have := Y1.size; simp; omega) ?_
           intro v2 w3 ho2 hg2 _
           have Y2 : Ext w2 w3 := ext_appS (by first | exact Y1 | exact Y1.alloc _) hg2 (fun g hg => (own_blocks ho1 g hg).1)
           obtain ⟨A2, d2, rfl⟩ := ho2.formN (n := zs.length + 1) (by first | (simp; done) | (simp; omega) | omega))
        | (refine stepZ _ (lo := w2.heap.size) (ys := zs.drop zs.length) ho2 (HRR.out _ Y2) HT3.out rfl (.tmp 29) (.tmp 32) rfl (by rfl) (by rfl) (by first | (simp; done) | (simp; omega) | omega) Y2.size ?_
           intro v3 w4 ho3 hg3 _
           have Y3 : Ext w2 w4 := ext_appS Y2 hg3 (fun g hg => (own_blocks ho2 g hg).1)))
      all_goals
        go_wp2
        go_ret
        have ho4 : OutZ w4 w2.heap.size v3 (zs.take zs.length ++ (Value.slice A0 ys.length c0, ys) :: zs.drop zs.length) := by simpa using ho3
        exact ⟨v3, rfl, own_rebase ho4 X2.size, X2.trans Y3⟩
end Go.Proofs.YtbdcomkbpapcaaaGreat
