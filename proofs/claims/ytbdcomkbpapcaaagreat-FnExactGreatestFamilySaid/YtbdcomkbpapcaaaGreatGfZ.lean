import Derived.Test.YtbdcomkbpapcaaaGreatGfO
import Derived.Test.YtbdcomkbpapcaaaGreatGfN
/-
  Greatest families, the program's side: shrinking, walked. Conditions: at most 60 clauses of literals within 12, at most six variables.
-/

namespace Go.Proofs.YtbdcomkbpapcaaaGreat
open Go.RowKit Seed
def RetPb (w : World) (n : Nat) (A L : List (List Int)) : Ending → World → Prop := fun e w' => ∃ (w1 : World) (pb gi gr N : Nat) (x0 x1 x2 : Value) (AA : Option Addr) (cA : Nat) (bs : List Bool) (rs : List Int) (zs : List Row), e = .returned (.pointer (some ⟨pb, 0, none⟩)) ∧
  Shi w1 w' pb gi gr N x0 x1 x2 (.slice AA zs.length cA) bs rs ∧ OutZ w1 w.heap.size (.slice AA zs.length cA) zs ∧ (∀ z ∈ zs, RowN w1 z) ∧ zs.map Prod.snd = A ∧ Tells n (tellB bs) L ∧ Ext w w1 ∧ N = 3 ^ n
theorem heap_b1 {w w' : World} {o : Obj} {b : Nat} (hb : w.heap.size = b) (hx : Ext (w.alloc o) w') : w'.heap[b]? = some o := by
  subst hb
  exact hx.heap (heap_n1 w o)
theorem tell_atZ {bs : List Bool} {c : Nat} (h : c < bs.length) : tellB bs c = bs[c] := by unfold tellB; simp [h]
theorem add_gkZ (g k : Nat) : (⟨g, 0, none⟩ : Addr).add k = ⟨g, k, none⟩ := by
  unfold Addr.add
  split
  · rename_i h; rw [h]
  · simp
theorem fil_snocZ {p : List Int → Bool} {A : List (List Int)} {k : Nat} (h : k < A.length) : (A.take (k + 1)).filter p = if p A[k] then (A.take k).filter p ++ [A[k]] else (A.take k).filter p := fil_snoc h
set_option maxRecDepth 100000 in
set_option maxHeartbeats 6400000 in
theorem i_shrink (n : Nat) (cs : List (List Int)) (q : Nat) (v : Value) (w : World) (hn : n ≤ 6) (hl : cs.length ≤ 60) (hc : Hid (∀ c ∈ cs, c.length ≤ 1000000 ∧ ∀ l ∈ c, -12 ≤ l ∧ l ≤ 12)) (hq : q ≤ 6) (hv : Rd_Cnf w v ⟨(n : Int), cs⟩) :
    Calls Tryz.prog 19 #[v, .int .i64 (q : Int)] w (RetPb w n (insA (allA cs n q)) (shrL n q (insA (allA cs n q)))) := by
  have HV := hd hv
  obtain ⟨A, c, rfl⟩ := hv.form
  simp only at *
  clear hv
  have HAW : Hid (∀ w' : World, Ext w w' → Calls Tryz.prog 33 #[.agg #[.int .i64 (n : Int), .slice A cs.length c], .int .i64 (q : Int)] w' (RetAlw w' (insA (allA cs n q)))) := hd fun w' hx => i_allowedAll n cs q _ w' hn hl hc hq (HV.out.ext hx)
  have HMC : Hid (∀ (w' : World) (L : List (List Int)) (lv : Value), Ext w w' → RdSS w' lv L → Hid (∀ b ∈ L, Ris (n : Int) b) → L.length ≤ 729 → Calls Tryz.prog 34 #[.agg #[.int .i64 (n : Int), .slice A cs.length c], lv] w' (fun e w'' => ∃ g bs, e = .returned (.slice (some ⟨g, 0, none⟩) (3 ^ n) (3 ^ n)) ∧ bs.length = 3 ^ n ∧ OwnB w'' w'.heap.size 4 (.slice (some ⟨g, 0, none⟩) (3 ^ n) (3 ^ n)) bs ∧ Tells n (tellB bs) L ∧ Ext w' w'')) := hd fun w' L lv hx hL hR hll => i_marks n cs L _ lv w' (HV.out.ext hx) hL hR hn hll
  have HKC : Hid (∀ (w' : World) (bs : List Bool) (L : List (List Int)) (a : List Int) (iv av : Value), Ext w w' → RdB w' iv bs → bs.length = 3 ^ n → Tells n (tellB bs) L → RdI w' av a → Ris (n : Int) a → Calls Tryz.prog 36 #[.agg #[.int .i64 (n : Int), .slice A cs.length c], .int .i64 (q : Int), iv, av] w' (RetX w' (.bool (keepB n q L a)))) := hd fun w' bs L a iv av hx hB hbl hT ha har => by
    have h := i_closedAt n cs q bs a _ iv av w' hn hq (HV.out.ext hx) hB hbl ha har
    rw [keep_clos hT har] at h
    exact h
  have hcd : Hid (∀ (w' : World) (a : List Int) (av : Value), RdI w' av a → Ris (n : Int) a → Calls Tryz.prog 35 #[av] w' (Ret w' (.int .i64 ((codeA a : Nat) : Int)))) := hd fun w' a av ha har => i_codeOf n a av w' ha har hn
  have HCL : Hid (∀ a, Ris (n : Int) a → codeA a < 3 ^ n) := hd fun a ha => code_lt n a ha
  have HAR : Hid (∀ b ∈ insA (allA cs n q), Ris (n : Int) b) := hd fun b h => allA_ris ((mem_insA _ _).1 h)
  have HAL : Hid ((insA (allA cs n q)).length ≤ 729) := hd (by
    have h1 := insA_len (allA cs n q) _ (Nat.le_refl _)
    rw [List.take_length] at h1
    have := allA_len (cs := cs) (w := q) hn
    omega)
  have hN := pow36 hn
  have hN0 : 1 ≤ 3 ^ n := Nat.pow_pos (by decide)
  generalize insA (allA cs n q) = AL at *
  generalize hNN : 3 ^ n = N at *
  have HNN := hd hNN
  have X0 := hd (Ext.new w (.cells #[.int .i64 (n : Int), .slice A cs.length c] 28))
  have HF : Hid (∀ w' : World, Ext (w.alloc (.cells #[.int .i64 (n : Int), .slice A cs.length c] 28)) w' → w'.cell? ⟨w.heap.size, 0, none⟩ = some (.int .i64 (n : Int)) ∧ w'.cell? ⟨w.heap.size, 1, none⟩ = some (.slice A cs.length c)) := hd fun w' hx => blk2 (hx.heap (heap_n1 w _))
  clear hNN
  go_enter Tryz.func19, Tryz.ntmps19
  go_wp2_with fail
  refine wp_region_sink (fun w' => (w').cell? ⟨w.heap.size, 0, none⟩ = some (.int .i64 (n : Int)) ∧ (w').cell? ⟨w.heap.size, 1, none⟩ = some (.slice A cs.length c)) 7 8 #[false, false, false, false, false, false, false, false] (by kernel_rfl) (by kernel_rfl) (by kernel_rfl) ?_
  have HS := HF.out _ (Ext.refl (w.alloc (.cells #[.int .i64 (n : Int), .slice A cs.length c] 28))).drew
  refine' ordG_take 0 (oi := _) (v := _) ?_ ?_ ?_ (Or.inl ⟨?_, ?_⟩) ?_ ?_
  rotate_left 2
  · (simp only [List.getElem?_toArray, List.getElem?_cons_zero]; rfl)
  · kernel_rfl
  · exact fun _ _ _ h => h
  · rfl
  · (intro w hSw; (try dsimp only at hSw); go_simp; (try with_reducible rfl))
  · exact HS
  (try simp only [Act.put, List.setIfInBounds_toArray, List.set_cons_zero, List.set_cons_succ])
  refine' ordG_take 1 (oi := _) (v := _) ?_ ?_ ?_ (Or.inl ⟨?_, ?_⟩) ?_ ?_
  rotate_left 2
  · (simp only [List.getElem?_toArray, List.getElem?_cons_zero, List.getElem?_cons_succ]; rfl)
  · kernel_rfl
  · exact fun _ _ _ h => h
  · rfl
  · (intro w hSw; (try dsimp only at hSw); go_simp; (try with_reducible rfl))
  · exact HS
  (try simp only [Act.put, List.setIfInBounds_toArray, List.set_cons_zero, List.set_cons_succ])
  refine' ordG_take 2 (oi := _) (v := _) ?_ ?_ ?_ (Or.inl ⟨?_, ?_⟩) ?_ ?_
  rotate_left 2
  · (simp only [List.getElem?_toArray, List.getElem?_cons_zero, List.getElem?_cons_succ]; rfl)
  · kernel_rfl
  · exact fun _ _ _ h => h
  · rfl
  · (intro w hSw; (try dsimp only at hSw); go_simp; (try with_reducible rfl))
  · exact HS
  (try simp only [Act.put, List.setIfInBounds_toArray, List.set_cons_zero, List.set_cons_succ])
  refine' ordG_take 3 (oi := _) (v := _) ?_ ?_ ?_ (Or.inl ⟨?_, ?_⟩) ?_ ?_
  rotate_left 2
  · (simp only [List.getElem?_toArray, List.getElem?_cons_zero, List.getElem?_cons_succ]; rfl)
  · kernel_rfl
  · exact fun _ _ _ h => h
  · rfl
  · (intro w hSw; (try dsimp only at hSw); go_simp; (try with_reducible rfl))
  · exact HS
  (try simp only [Act.put, List.setIfInBounds_toArray, List.set_cons_zero, List.set_cons_succ])
  refine ordG_all (rs := [4]) (by kernel_rfl) (by simp) (by decide) ?_
  refine' ordG_cons (o := _) ?_ (fun K hK => ?_) ordG_nil
  rotate_left 1
  · (simp only [List.getElem?_toArray, List.getElem?_cons_zero, List.getElem?_cons_succ]; rfl)
  go_simp
  go_at_call 33
  refine (HAW.out _ X0.out.drew).mono ?_
  rintro e w1 ⟨vA, zs, rfl, ho1, hr1, hs1, hx1⟩
  obtain ⟨AA, cA, rfl, -⟩ := OutZ.form ho1
  have X1 := hd (Ext.trans (Ext.refl (w.alloc (.cells #[.int .i64 (n : Int), .slice A cs.length c] 28))).drew hx1)
  have XW := hd (X0.out.trans X1.out)
  have HO1 := hd (own_rebase ho1 (by simp) : OutZ w1 w.heap.size _ zs)
  have HR1 := hd hr1
  have HS1 := hd hs1
  have hzl1 : zs.length ≤ AL.length := by rw [← hs1, List.length_map]; exact Nat.le_refl _
  have hzl2 : AL.length ≤ zs.length := by rw [← hs1, List.length_map]; exact Nat.le_refl _
  have hal := HAL.out
  have HSS := hd (outZ_rdss ho1 fun z hz => (hr1 z hz).rd)
  rw [HS1.out] at HSS
  go_simp
  refine hK.out _ _ (HF.out _ X1.out) ?_
  clear hK K ho1 hr1 hs1 hx1 HS
  (try simp only [Act.put, List.setIfInBounds_toArray, List.set_cons_zero, List.set_cons_succ])
  have HSB := HF.out _ X1.out
  refine' ordG_take 5 (oi := _) (v := _) ?_ ?_ ?_ (Or.inl ⟨?_, ?_⟩) ?_ ?_
  rotate_left 2
  · (simp only [List.getElem?_toArray, List.getElem?_cons_zero, List.getElem?_cons_succ]; rfl)
  · kernel_rfl
  · exact fun _ _ _ h => h
  · rfl
  · (intro w hSw; (try dsimp only at hSw); go_simp; (try with_reducible rfl))
  · exact HSB
  (try simp only [Act.put, List.setIfInBounds_toArray, List.set_cons_zero, List.set_cons_succ])
  refine ordG_all (rs := [6]) (by kernel_rfl) (by simp) (by decide) ?_
  refine' ordG_cons (o := _) ?_ (fun K hK => ?_) ordG_nil
  rotate_left 1
  · (simp only [List.getElem?_toArray, List.getElem?_cons_zero, List.getElem?_cons_succ]; rfl)
  go_simp
  refine hK.out _ _ (HF.out _ (X1.out.alloc _)) ?_
  clear hK K
  (try simp only [Act.put, List.setIfInBounds_toArray, List.set_cons_zero, List.set_cons_succ])
  refine ordG_last (by kernel_rfl) (by kernel_rfl) ?_
  refine' wpOp_step (o := _) ?_ (fun K hK => ?_)
  rotate_left 1
  · (simp only [List.getElem?_toArray, List.getElem?_cons_zero, List.getElem?_cons_succ]; rfl)
  go_simp
  refine hK _ _ ?_
  clear hK K HSB
  (try simp only [Act.put, List.setIfInBounds_toArray, List.set_cons_zero, List.set_cons_succ])
  obtain ⟨wb, hwb⟩ : ∃ wb, wb = w1.alloc (.cells #[.int .i64 (n : Int), .slice A cs.length c, .int .i64 (q : Int), .slice AA zs.length cA, .slice none 0 0, .slice none 0 0] 54) := ⟨_, rfl⟩
  rw [← hwb]
  have XB : Ext w1 wb := by rw [hwb]; exact Ext.new _ _
  have hBB : wb.heap[w1.heap.size]? = some (.cells #[.int .i64 (n : Int), .slice A cs.length c, .int .i64 (q : Int), .slice AA zs.length cA, .slice none 0 0, .slice none 0 0] 54 (0, 0)) := by rw [hwb]; exact heap_n1 _ _
  have hsb : wb.heap.size = w1.heap.size + 1 := by rw [hwb, World.size_alloc]
  clear hwb
  generalize hpb : w1.heap.size = pb at *
  have HPB := hd hpb
  have HSB := hd hsb
  have HBB := hd hBB
  have HXB := hd XB
  have HS3 : Hid (∀ w' : World, Ext wb w' → w'.cell? ⟨w.heap.size, 0, none⟩ = some (.int .i64 (n : Int)) ∧ w'.cell? ⟨w.heap.size, 1, none⟩ = some (.slice A cs.length c) ∧ w'.cell? ⟨pb, 3, none⟩ = some (.slice AA zs.length cA)) := hd fun w' hx => by
    obtain ⟨k0, k1⟩ := HF.out _ (X1.out.trans (HXB.out.trans hx))
    exact ⟨k0, k1, (b6 (hx.heap HBB.out)).2.2.2.1⟩
  clear hpb hsb hBB XB
  go_wp2_with fail
  refine wp_region_sink (fun w' => (w').cell? ⟨w.heap.size, 0, none⟩ = some (.int .i64 (n : Int)) ∧ (w').cell? ⟨w.heap.size, 1, none⟩ = some (.slice A cs.length c) ∧ (w').cell? ⟨pb, 3, none⟩ = some (.slice AA zs.length cA)) 9 10 #[false, false, false, false, false, false, false, false, false, false] (by kernel_rfl) (by kernel_rfl) (by kernel_rfl) ?_
  have HS4 := HS3.out _ (Ext.refl wb).drew
  refine' ordG_take 0 (oi := _) (v := _) ?_ ?_ ?_ (Or.inl ⟨?_, ?_⟩) ?_ ?_
  rotate_left 2
  · (simp only [List.getElem?_toArray, List.getElem?_cons_zero]; rfl)
  · kernel_rfl
  · exact fun _ _ _ h => h
  · rfl
  · (intro w hSw; (try dsimp only at hSw); go_simp; (try with_reducible rfl))
  · exact HS4
  (try simp only [Act.put, List.setIfInBounds_toArray, List.set_cons_zero, List.set_cons_succ])
  refine' ordG_take 1 (oi := _) (v := _) ?_ ?_ ?_ (Or.inl ⟨?_, ?_⟩) ?_ ?_
  rotate_left 2
  · (simp only [List.getElem?_toArray, List.getElem?_cons_zero, List.getElem?_cons_succ]; rfl)
  · kernel_rfl
  · exact fun _ _ _ h => h
  · rfl
  · (intro w hSw; (try dsimp only at hSw); go_simp; (try with_reducible rfl))
  · exact HS4
  (try simp only [Act.put, List.setIfInBounds_toArray, List.set_cons_zero, List.set_cons_succ])
  refine' ordG_take 2 (oi := _) (v := _) ?_ ?_ ?_ (Or.inl ⟨?_, ?_⟩) ?_ ?_
  rotate_left 2
  · (simp only [List.getElem?_toArray, List.getElem?_cons_zero, List.getElem?_cons_succ]; rfl)
  · kernel_rfl
  · exact fun _ _ _ h => h
  · rfl
  · (intro w hSw; (try dsimp only at hSw); go_simp; (try with_reducible rfl))
  · exact HS4
  (try simp only [Act.put, List.setIfInBounds_toArray, List.set_cons_zero, List.set_cons_succ])
  refine' ordG_take 3 (oi := _) (v := _) ?_ ?_ ?_ (Or.inl ⟨?_, ?_⟩) ?_ ?_
  rotate_left 2
  · (simp only [List.getElem?_toArray, List.getElem?_cons_zero, List.getElem?_cons_succ]; rfl)
  · kernel_rfl
  · exact fun _ _ _ h => h
  · rfl
  · (intro w hSw; (try dsimp only at hSw); go_simp; (try with_reducible rfl))
  · exact HS4
  (try simp only [Act.put, List.setIfInBounds_toArray, List.set_cons_zero, List.set_cons_succ])
  refine' ordG_take 4 (oi := _) (v := _) ?_ ?_ ?_ (Or.inl ⟨?_, ?_⟩) ?_ ?_
  rotate_left 2
  · (simp only [List.getElem?_toArray, List.getElem?_cons_zero, List.getElem?_cons_succ]; rfl)
  · kernel_rfl
  · exact fun _ _ _ h => h
  · rfl
  · (intro w hSw; (try dsimp only at hSw); go_simp; (try with_reducible rfl))
  · exact HS4
  (try simp only [Act.put, List.setIfInBounds_toArray, List.set_cons_zero, List.set_cons_succ])
  refine' ordG_take 5 (oi := _) (v := _) ?_ ?_ ?_ (Or.inl ⟨?_, ?_⟩) ?_ ?_
  rotate_left 2
  · (simp only [List.getElem?_toArray, List.getElem?_cons_zero, List.getElem?_cons_succ]; rfl)
  · kernel_rfl
  · exact fun _ _ _ h => h
  · rfl
  · (intro w hSw; (try dsimp only at hSw); go_simp; (try with_reducible rfl))
  · exact HS4
  (try simp only [Act.put, List.setIfInBounds_toArray, List.set_cons_zero, List.set_cons_succ])
  refine ordG_all (rs := [6]) (by kernel_rfl) (by simp) (by decide) ?_
  refine' ordG_cons (o := _) ?_ (fun K hK => ?_) ordG_nil
  rotate_left 1
  · (simp only [List.getElem?_toArray, List.getElem?_cons_zero, List.getElem?_cons_succ]; rfl)
  go_simp
  go_at_call 34
  refine (HMC.out _ AL _ (XW.out.trans (HXB.out.trans (Ext.refl wb).drew)) (HSS.out.ext (HXB.out.trans (Ext.refl wb).drew)) HAR hal).mono ?_
  rintro e w3 ⟨gi, bs, rfl, hbl, hob, htl, hx3⟩
  have X3 := hd (Ext.trans (Ext.refl wb).drew hx3)
  have HOB := hd hob
  have HTL := hd htl
  have HBL := hd hbl
  go_simp
  refine hK.out _ _ (HS3.out _ X3.out) ?_
  clear hK K hob htl hbl hx3 HS4
  (try simp only [Act.put, List.setIfInBounds_toArray, List.set_cons_zero, List.set_cons_succ])
  have HS5 := HS3.out _ X3.out
  refine' ordG_take 7 (oi := _) (v := _) ?_ ?_ ?_ (Or.inl ⟨?_, ?_⟩) ?_ ?_
  rotate_left 2
  · (simp only [List.getElem?_toArray, List.getElem?_cons_zero, List.getElem?_cons_succ]; rfl)
  · kernel_rfl
  · exact fun _ _ _ h => h
  · rfl
  · (intro w hSw; (try dsimp only at hSw); go_simp; (try with_reducible rfl))
  · exact HS5
  (try simp only [Act.put, List.setIfInBounds_toArray, List.set_cons_zero, List.set_cons_succ])
  refine' ordG_take 8 (oi := _) (v := _) ?_ ?_ ?_ (Or.inl ⟨?_, ?_⟩) ?_ ?_
  rotate_left 2
  · (simp only [List.getElem?_toArray, List.getElem?_cons_zero, List.getElem?_cons_succ]; rfl)
  · kernel_rfl
  · exact fun _ _ _ h => h
  · rfl
  · (intro w hSw; (try dsimp only at hSw); go_simp; (try with_reducible rfl))
  · exact HS5
  (try simp only [Act.put, List.setIfInBounds_toArray, List.set_cons_zero, List.set_cons_succ])
  obtain ⟨m0, m1, m2, m3, m4, m5, f4, f5⟩ := b6 (X3.out.heap HBB.out)
  refine ordG_last (by kernel_rfl) (by kernel_rfl) ?_
  refine' wpOp_step (o := _) ?_ (fun K hK => ?_)
  rotate_left 1
  · (simp only [List.getElem?_toArray, List.getElem?_cons_zero, List.getElem?_cons_succ]; rfl)
  go_simp
  refine hK _ _ ?_
  clear hK K
  (try simp only [Act.put, List.setIfInBounds_toArray, List.set_cons_zero, List.set_cons_succ])
  have hN29 : N ≤ 1073741824 := by omega
  clear HS5
  have XM := hd (HXB.out.trans X3.out)
  have HST := hd (fun (w4 : World) gr (h4 : Ext (w3.setCell ⟨pb, 4, none⟩ (.slice (some ⟨gi, 0, none⟩) N N)) w4) (hR : OwnI w4 w1.heap.size 3 (.slice (some ⟨gr, 0, none⟩) N N) (List.replicate N 0)) => Shi.start (w1 := w1) (X3.out.heap HBB.out) (by rw [HPB.out]; exact Nat.le_refl _) XM.out (own_rebase (ownB_own HOB.out) (by have := HSB.out; have := HPB.out; simp; omega)) HBL.out h4 hR (List.length_replicate))
  go_wp2_with (at_make; refine mkI (n := N) _ rfl _ _ rfl rfl rfl (by omega) rfl ?_; intro w4 hown4 hx4; obtain ⟨⟨g5, f5'⟩, hsh⟩ := HST.out w4 _ hx4 (own_rebase hown4 (by have := XM.out.size; simpa [World.setCell] using this)))
  rw [size_setCell] at hsh
  generalize w3.heap.size = gr at *
  have HSH0 := hd hsh
  have HTL0 := hd (HTL.out)
  clear m0 m1 m2 m3 m4 m5 f4 f5 g5 f5' hsh hown4 hx4 HST HTL HOB HBL X3 XM HS3 HBB
  go_loopw [6] (fun rv wr => ∃ (r : Nat) (bs : List Bool) (rs : List Int) (L : List (List Int)), rv = .int .i64 (r : Int) ∧ 1 ≤ r ∧ L.length + r ≤ AL.length + 1 ∧ Shi w1 wr pb gi gr N (.int .i64 (n : Int)) (.slice A cs.length c) (.int .i64 (q : Int)) (.slice AA zs.length cA) bs rs ∧ Hid (Tells n (tellB bs) L) ∧ Hid (Sub AL L) ∧ Hid (shrL n q AL = shrL n q L)) (fun rv _ => AL.length + 2 - (intOf rv).toNat)
  case atStart => exact ⟨1, bs, _, AL, rfl, by omega, by omega, HSH0.out, HTL0, hd (sub_refl _), hd rfl⟩
  case round =>
    clear HSH0 HTL0 HMC HAW
    obtain ⟨r, bs, rs, L, rfl, hr1, hlr, hS, HT, HSUB, HSHR⟩ := hrel
    have HS := hd hS
    have hrn : (r : Int) ≤ 730 := by omega
    obtain ⟨wo, rfl⟩ : ∃ wo : World, wo = wr := ⟨_, rfl⟩
    have HGRB : Hid (gr < wo.heap.size) := hd (own_blocks (ownI_own hS.r) gr rfl).2
    have hXo := hd (XW.out.trans hS.x)
    obtain ⟨-, -, -, b3, -, -, -, -⟩ := b6 hS.bx
    clear hS
    go_wp2
    go_loopw [44, 7] (fun kv gv wr => ∃ (k : Nat) (gs : List Int), k ≤ zs.length ∧ gs.length ≤ k ∧ kv = .int .i64 (k : Int) ∧ Hid (gs = ((AL.take k).filter (gonL n q L)).map (fun b => ((codeA b : Nat) : Int))) ∧ OwnI wr wo.heap.size 3 gv gs ∧ Ext wo wr) (fun kv _ _ => zs.length - (intOf kv).toNat)
    case atStart => exact ⟨0, [], by omega, by simp, rfl, hd rfl, ownI_nil _ _ _, Ext.refl _⟩
    case round =>
      obtain ⟨k, gs, hk, hgl, rfl, HG, ho, hx⟩ := hrel
      have HO := hd ho
      have HX := hd hx
      have hS := HS.out.ext hx
      have hls := hx.size
      clear ho hx
      by_cases hlt : k < zs.length
      · have hka : k < AL.length := by omega
        obtain ⟨a2, e2, hc0⟩ := OutZ.at_ (hd (own_ext HO1.out hS.x) : Hid (OutZ wr _ _ zs)) hlt
        subst e2
        have hrow := (HR1.out _ (List.getElem_mem hlt)).ext hS.x
        have hyk : zs[k].2 = AL[k] := by
          have e : (zs.map Prod.snd)[k]? = AL[k]? := by rw [HS1.out]
          rw [List.getElem?_map, List.getElem?_eq_getElem hlt, List.getElem?_eq_getElem hka] at e
          simpa using e
        have HFG := hd (fil_snocZ (p := gonL n q L) hka)
        have HYR := hd (HAR.out _ (List.getElem_mem hka))
        rw [← hyk] at HFG HYR
        have hkz : (k : Int) < (zs.length : Int) := by omega
        clear hyk
        generalize zs[k] = zk at *
        obtain ⟨uk, yk⟩ := zk
        have HROW := hd hrow
        obtain ⟨A3, c3, e3⟩ := hrow.one
        (try dsimp only at hc0); (try dsimp only at HFG); (try dsimp only at HYR); (try dsimp only at e3)
        subst e3
        clear hrow
        have hcl := HCL.out yk HYR.out
        have HTK : Hid (tellB bs (codeA yk) = decide (yk ∈ L)) := hd (HT.out yk HYR.out)
        rw [tell_atZ (by rw [hS.il]; exact hcl)] at HTK
        obtain ⟨g2, e2, hcb⟩ := RdB.at_ (hd hS.i.rd) (by rw [hS.il]; exact hcl : codeA yk < bs.length)
        injection e2 with e2
        subst e2
        rw [add_gkZ, HTK.out] at hcb
        have HCD := hd (fun w' hu => hcd.out w' yk (.slice A3 yk.length c3) hu HYR.out)
        have HKP := hd (fun (w' : World) (hx : Ext wr w') => HKC.out w' bs L yk (.slice (some ⟨gi, 0, none⟩) N N) (.slice A3 yk.length c3) (XW.out.trans (hS.x.trans hx)) (hS.ext hx).i.rd hS.il HT.out (HROW.out.rd.ext hx) HYR.out)
        obtain ⟨k0, k1⟩ := HF.out _ (X1.out.trans hS.x)
        obtain ⟨-, -, -, -, b4, -, -, -⟩ := b6 hS.bx
        have HRDY := hd HROW.out.rd
        generalize hCE : codeA yk = C at *
        have HCE := hd hCE
        clear hCE
        have hC1 : (C : Int) < (N : Int) := by omega
        have hC0 : (0 : Int) ≤ (C : Int) := by omega
        have HC : Hid (∀ w' : World, Ext wr w' → w'.cell? ⟨w.heap.size, 0, none⟩ = some (.int .i64 (n : Int)) ∧ w'.cell? ⟨w.heap.size, 1, none⟩ = some (.slice A cs.length c) ∧ w'.cell? ⟨pb, 4, none⟩ = some (.slice (some ⟨gi, 0, none⟩) N N) ∧ w'.cell? ⟨gi, C, none⟩ = some (.bool (decide (yk ∈ L)))) := hd fun w' hx => ⟨hx.cell k0, hx.cell k1, hx.cell b4, hx.cell hcb⟩
        clear HTK hS k0 k1 b4 hcb
        by_cases hm : yk ∈ L
        · rw [decide_eq_true hm] at HC
          obtain ⟨p, hp⟩ : ∃ p, keepB n q L yk = p := ⟨_, rfl⟩
          have HGL : Hid (gonL n q L yk = !p) := hd (by unfold gonL; rw [decide_eq_true hm, hp]; rfl)
          rw [HGL.out] at HFG
          rw [hp] at HKP
          clear hm hp
          go_wp2_with fail
          refine wp_region_sink (fun w' => (w').cell? ⟨w.heap.size, 0, none⟩ = some (.int .i64 (n : Int)) ∧ (w').cell? ⟨w.heap.size, 1, none⟩ = some (.slice A cs.length c) ∧ (w').cell? ⟨pb, 4, none⟩ = some (.slice (some ⟨gi, 0, none⟩) N N) ∧ (w').cell? ⟨gi, C, none⟩ = some (.bool true)) 18 19 #[false, false, false, false, false, false, false, false, false, false, false, false, false, false, false, false, false, false, false] (by kernel_rfl) (by kernel_rfl) (by kernel_rfl) ?_
          have HS9 := HC.out _ (Ext.refl wr).drew
          refine' ordG_take 0 (oi := _) (v := _) ?_ ?_ ?_ (Or.inl ⟨?_, ?_⟩) ?_ ?_
          rotate_left 2
          · (simp only [List.getElem?_toArray, List.getElem?_cons_zero]; rfl)
          · kernel_rfl
          · exact fun _ _ _ h => h
          · rfl
          · (intro w hSw; (try dsimp only at hSw); go_simp; (try with_reducible rfl))
          · exact HS9
          (try simp only [Act.put, List.setIfInBounds_toArray, List.set_cons_zero, List.set_cons_succ])
          refine' ordG_take 1 (oi := _) (v := _) ?_ ?_ ?_ (Or.inl ⟨?_, ?_⟩) ?_ ?_
          rotate_left 2
          · (simp only [List.getElem?_toArray, List.getElem?_cons_zero, List.getElem?_cons_succ]; rfl)
          · kernel_rfl
          · exact fun _ _ _ h => h
          · rfl
          · (intro w hSw; (try dsimp only at hSw); go_simp; (try with_reducible rfl))
          · exact HS9
          (try simp only [Act.put, List.setIfInBounds_toArray, List.set_cons_zero, List.set_cons_succ])
          refine' ordG_take 2 (oi := _) (v := _) ?_ ?_ ?_ (Or.inl ⟨?_, ?_⟩) ?_ ?_
          rotate_left 2
          · (simp only [List.getElem?_toArray, List.getElem?_cons_zero, List.getElem?_cons_succ]; rfl)
          · kernel_rfl
          · exact fun _ _ _ h => h
          · rfl
          · (intro w hSw; (try dsimp only at hSw); go_simp; (try with_reducible rfl))
          · exact HS9
          (try simp only [Act.put, List.setIfInBounds_toArray, List.set_cons_zero, List.set_cons_succ])
          refine' ordG_take 3 (oi := _) (v := _) ?_ ?_ ?_ (Or.inl ⟨?_, ?_⟩) ?_ ?_
          rotate_left 2
          · (simp only [List.getElem?_toArray, List.getElem?_cons_zero, List.getElem?_cons_succ]; rfl)
          · kernel_rfl
          · exact fun _ _ _ h => h
          · rfl
          · (intro w hSw; (try dsimp only at hSw); go_simp; (try with_reducible rfl))
          · exact HS9
          (try simp only [Act.put, List.setIfInBounds_toArray, List.set_cons_zero, List.set_cons_succ])
          refine' ordG_take 4 (oi := _) (v := _) ?_ ?_ ?_ (Or.inl ⟨?_, ?_⟩) ?_ ?_
          rotate_left 2
          · (simp only [List.getElem?_toArray, List.getElem?_cons_zero, List.getElem?_cons_succ]; rfl)
          · kernel_rfl
          · exact fun _ _ _ h => h
          · rfl
          · (intro w hSw; (try dsimp only at hSw); go_simp; (try with_reducible rfl))
          · exact HS9
          (try simp only [Act.put, List.setIfInBounds_toArray, List.set_cons_zero, List.set_cons_succ])
          refine ordG_all (rs := [5]) (by kernel_rfl) (by simp) (by decide) ?_
          refine' ordG_cons (o := _) ?_ (fun K hK => ?_) ordG_nil
          rotate_left 1
          · (simp only [List.getElem?_toArray, List.getElem?_cons_zero, List.getElem?_cons_succ]; rfl)
          go_simp
          go_at_call 35
          refine (HCD.out _ (HRDY.out.ext (Ext.refl _).drew)).mono ?_
          rintro e w5 ⟨rfl, rfl⟩
          go_simp
          refine hK.out _ _ HS9 ?_
          clear hK K
          (try simp only [Act.put, List.setIfInBounds_toArray, List.set_cons_zero, List.set_cons_succ])
          refine' ordG_take 6 (oi := _) (v := _) ?_ ?_ ?_ (Or.inl ⟨?_, ?_⟩) ?_ ?_
          rotate_left 2
          · (simp only [List.getElem?_toArray, List.getElem?_cons_zero, List.getElem?_cons_succ]; rfl)
          · kernel_rfl
          · exact fun _ _ _ h => h
          · rfl
          · (intro w hSw; (try dsimp only at hSw); go_simp; (try with_reducible rfl))
          · exact HS9
          (try simp only [Act.put, List.setIfInBounds_toArray, List.set_cons_zero, List.set_cons_succ])
          refine' ordG_take 7 (oi := _) (v := _) ?_ ?_ ?_ (Or.inl ⟨?_, ?_⟩) ?_ ?_
          rotate_left 2
          · (simp only [List.getElem?_toArray, List.getElem?_cons_zero, List.getElem?_cons_succ]; rfl)
          · kernel_rfl
          · exact fun _ _ _ h => h
          · rfl
          · (intro w hSw; (try dsimp only at hSw); go_simp; (try with_reducible rfl))
          · exact HS9
          (try simp only [Act.put, List.setIfInBounds_toArray, List.set_cons_zero, List.set_cons_succ])
          refine' ordG_take 8 (oi := _) (v := _) ?_ ?_ ?_ (Or.inl ⟨?_, ?_⟩) ?_ ?_
          rotate_left 2
          · (simp only [List.getElem?_toArray, List.getElem?_cons_zero, List.getElem?_cons_succ]; rfl)
          · kernel_rfl
          · exact fun _ _ _ h => h
          · rfl
          · (intro w hSw; (try dsimp only at hSw); go_simp; (try with_reducible rfl))
          · exact HS9
          (try simp only [Act.put, List.setIfInBounds_toArray, List.set_cons_zero, List.set_cons_succ])
          refine' ordG_take 9 (oi := _) (v := _) ?_ ?_ ?_ (Or.inl ⟨?_, ?_⟩) ?_ ?_
          rotate_left 2
          · (simp only [List.getElem?_toArray, List.getElem?_cons_zero, List.getElem?_cons_succ]; rfl)
          · kernel_rfl
          · exact fun _ _ _ h => h
          · rfl
          · (intro w hSw; (try dsimp only at hSw); go_simp; (try with_reducible rfl))
          · exact HS9
          (try simp only [Act.put, List.setIfInBounds_toArray, List.set_cons_zero, List.set_cons_succ])
          refine' ordG_take 10 (oi := _) (v := _) ?_ ?_ ?_ (Or.inl ⟨?_, ?_⟩) ?_ ?_
          rotate_left 2
          · (simp only [List.getElem?_toArray, List.getElem?_cons_zero, List.getElem?_cons_succ]; rfl)
          · kernel_rfl
          · exact fun _ _ _ h => h
          · rfl
          · (intro w hSw; (try dsimp only at hSw); go_simp; (try with_reducible rfl))
          · exact HS9
          (try simp only [Act.put, List.setIfInBounds_toArray, List.set_cons_zero, List.set_cons_succ])
          refine' ordG_take 11 (oi := _) (v := _) ?_ ?_ ?_ (Or.inl ⟨?_, ?_⟩) ?_ ?_
          rotate_left 2
          · (simp only [List.getElem?_toArray, List.getElem?_cons_zero, List.getElem?_cons_succ]; rfl)
          · kernel_rfl
          · exact fun _ _ _ h => h
          · rfl
          · (intro w hSw; (try dsimp only at hSw); go_simp; (try with_reducible rfl))
          · exact HS9
          (try simp only [Act.put, List.setIfInBounds_toArray, List.set_cons_zero, List.set_cons_succ])
          refine' ordG_take 12 (oi := _) (v := _) ?_ ?_ ?_ (Or.inl ⟨?_, ?_⟩) ?_ ?_
          rotate_left 2
          · (simp only [List.getElem?_toArray, List.getElem?_cons_zero, List.getElem?_cons_succ]; rfl)
          · kernel_rfl
          · exact fun _ _ _ h => h
          · rfl
          · (intro w hSw; (try dsimp only at hSw); go_simp; (try with_reducible rfl))
          · exact HS9
          (try simp only [Act.put, List.setIfInBounds_toArray, List.set_cons_zero, List.set_cons_succ])
          refine' ordG_take 13 (oi := _) (v := _) ?_ ?_ ?_ (Or.inl ⟨?_, ?_⟩) ?_ ?_
          rotate_left 2
          · (simp only [List.getElem?_toArray, List.getElem?_cons_zero, List.getElem?_cons_succ]; rfl)
          · kernel_rfl
          · exact fun _ _ _ h => h
          · rfl
          · (intro w hSw; (try dsimp only at hSw); go_simp; (try with_reducible rfl))
          · exact HS9
          (try simp only [Act.put, List.setIfInBounds_toArray, List.set_cons_zero, List.set_cons_succ])
          refine' ordG_take 14 (oi := _) (v := _) ?_ ?_ ?_ (Or.inl ⟨?_, ?_⟩) ?_ ?_
          rotate_left 2
          · (simp only [List.getElem?_toArray, List.getElem?_cons_zero, List.getElem?_cons_succ]; rfl)
          · kernel_rfl
          · exact fun _ _ _ h => h
          · rfl
          · (intro w hSw; (try dsimp only at hSw); go_simp; (try with_reducible rfl))
          · exact HS9
          (try simp only [Act.put, List.setIfInBounds_toArray, List.set_cons_zero, List.set_cons_succ])
          refine' ordG_take 15 (oi := _) (v := _) ?_ ?_ ?_ (Or.inl ⟨?_, ?_⟩) ?_ ?_
          rotate_left 2
          · (simp only [List.getElem?_toArray, List.getElem?_cons_zero, List.getElem?_cons_succ]; rfl)
          · kernel_rfl
          · exact fun _ _ _ h => h
          · rfl
          · (intro w hSw; (try dsimp only at hSw); go_simp; (try with_reducible rfl))
          · exact HS9
          (try simp only [Act.put, List.setIfInBounds_toArray, List.set_cons_zero, List.set_cons_succ])
          refine ordG_all (rs := [16]) (by kernel_rfl) (by simp) (by decide) ?_
          refine' ordG_cons (o := _) ?_ (fun K hK => ?_) ordG_nil
          rotate_left 1
          · (simp only [List.getElem?_toArray, List.getElem?_cons_zero, List.getElem?_cons_succ]; rfl)
          go_simp
          go_at_call 36
          refine (HKP.out _ (Ext.refl _).drew).mono ?_
          rintro e w5 ⟨rfl, hx5⟩
          have HX5 := hd (Ext.trans (Ext.refl wr).drew hx5)
          go_simp
          refine hK.out _ _ (HC.out _ HX5.out) ?_
          clear hK K hx5 HS9
          (try simp only [Act.put, List.setIfInBounds_toArray, List.set_cons_zero, List.set_cons_succ])
          have HSA := HC.out _ HX5.out
          refine' ordG_take 17 (oi := _) (v := _) ?_ ?_ ?_ (Or.inl ⟨?_, ?_⟩) ?_ ?_
          rotate_left 2
          · (simp only [List.getElem?_toArray, List.getElem?_cons_zero, List.getElem?_cons_succ]; rfl)
          · kernel_rfl
          · exact fun _ _ _ h => h
          · rfl
          · (intro w hSw; (try dsimp only at hSw); go_simp; (try with_reducible rfl))
          · exact HSA
          (try simp only [Act.put, List.setIfInBounds_toArray, List.set_cons_zero, List.set_cons_succ])
          refine ordG_last (by kernel_rfl) (by kernel_rfl) ?_
          refine' wpOp_step (o := _) ?_ (fun K hK => ?_)
          rotate_left 1
          · (simp only [List.getElem?_toArray, List.getElem?_cons_zero, List.getElem?_cons_succ]; rfl)
          go_simp
          refine hK _ _ ?_
          clear hK K HSA
          (try simp only [Act.put, List.setIfInBounds_toArray, List.set_cons_zero, List.set_cons_succ])
          cases p
          · have HG2 : Hid (gs ++ [(C : Int)] = ((AL.take (k + 1)).filter (gonL n q L)).map (fun b => ((codeA b : Nat) : Int))) := hd (by rw [HFG.out, if_pos (show (!false) = true from rfl), List.map_append, HG.out, List.map_cons, List.map_nil, HCE.out])
            go_wp2_with fail
            refine (HCD.out w5 (HRDY.out.ext HX5.out)).mono ?_
            rintro e w6 ⟨rfl, rfl⟩
            have hsz5 : wo.heap.size ≤ w5.heap.size := by have := HX5.out.size; omega
            go_wp2_with (at_builtin; refine appI w5 (own_ext HO.out HX5.out) rfl _ _ rfl (C : Int) (by rfl) (by rfl) (by omega) hsz5 ?_; intro v6 w6 ho6 hg6 hb6)
            go_roundw
            case rel => exact ⟨k + 1, gs ++ [(C : Int)], by omega, by rw [List.length_append, List.length_singleton]; omega, by go_num, HG2, ho6, ext_app (HX.out.trans HX5.out) hg6 (ownI_ge HO.out)⟩
            case measure => simp [intOf]; omega
          · have HG2 : Hid (gs = ((AL.take (k + 1)).filter (gonL n q L)).map (fun b => ((codeA b : Nat) : Int))) := hd (by rw [HFG.out, if_neg (by decide)]; exact HG.out)
            go_wp2
            go_roundw
            case rel => exact ⟨k + 1, gs, by omega, by omega, by go_num, HG2, own_ext HO.out HX5.out, HX.out.trans HX5.out⟩
            case measure => simp [intOf]; omega
        · rw [decide_eq_false hm] at HC
          have HGL : Hid (gonL n q L yk = false) := hd (by unfold gonL; rw [decide_eq_false hm]; rfl)
          rw [HGL.out] at HFG
          have HG2 : Hid (gs = ((AL.take (k + 1)).filter (gonL n q L)).map (fun b => ((codeA b : Nat) : Int))) := hd (by rw [HFG.out, if_neg (by decide)]; exact HG.out)
          clear hm
          go_wp2_with fail
          refine wp_region_sink (fun w' => (w').cell? ⟨w.heap.size, 0, none⟩ = some (.int .i64 (n : Int)) ∧ (w').cell? ⟨w.heap.size, 1, none⟩ = some (.slice A cs.length c) ∧ (w').cell? ⟨pb, 4, none⟩ = some (.slice (some ⟨gi, 0, none⟩) N N) ∧ (w').cell? ⟨gi, C, none⟩ = some (.bool false)) 18 19 #[false, false, false, false, false, false, false, false, false, false, false, false, false, false, false, false, false, false, false] (by kernel_rfl) (by kernel_rfl) (by kernel_rfl) ?_
          have HS9 := HC.out _ (Ext.refl wr).drew
          refine' ordG_take 0 (oi := _) (v := _) ?_ ?_ ?_ (Or.inl ⟨?_, ?_⟩) ?_ ?_
          rotate_left 2
          · (simp only [List.getElem?_toArray, List.getElem?_cons_zero]; rfl)
          · kernel_rfl
          · exact fun _ _ _ h => h
          · rfl
          · (intro w hSw; (try dsimp only at hSw); go_simp; (try with_reducible rfl))
          · exact HS9
          (try simp only [Act.put, List.setIfInBounds_toArray, List.set_cons_zero, List.set_cons_succ])
          refine' ordG_take 1 (oi := _) (v := _) ?_ ?_ ?_ (Or.inl ⟨?_, ?_⟩) ?_ ?_
          rotate_left 2
          · (simp only [List.getElem?_toArray, List.getElem?_cons_zero, List.getElem?_cons_succ]; rfl)
          · kernel_rfl
          · exact fun _ _ _ h => h
          · rfl
          · (intro w hSw; (try dsimp only at hSw); go_simp; (try with_reducible rfl))
          · exact HS9
          (try simp only [Act.put, List.setIfInBounds_toArray, List.set_cons_zero, List.set_cons_succ])
          refine' ordG_take 2 (oi := _) (v := _) ?_ ?_ ?_ (Or.inl ⟨?_, ?_⟩) ?_ ?_
          rotate_left 2
          · (simp only [List.getElem?_toArray, List.getElem?_cons_zero, List.getElem?_cons_succ]; rfl)
          · kernel_rfl
          · exact fun _ _ _ h => h
          · rfl
          · (intro w hSw; (try dsimp only at hSw); go_simp; (try with_reducible rfl))
          · exact HS9
          (try simp only [Act.put, List.setIfInBounds_toArray, List.set_cons_zero, List.set_cons_succ])
          refine' ordG_take 3 (oi := _) (v := _) ?_ ?_ ?_ (Or.inl ⟨?_, ?_⟩) ?_ ?_
          rotate_left 2
          · (simp only [List.getElem?_toArray, List.getElem?_cons_zero, List.getElem?_cons_succ]; rfl)
          · kernel_rfl
          · exact fun _ _ _ h => h
          · rfl
          · (intro w hSw; (try dsimp only at hSw); go_simp; (try with_reducible rfl))
          · exact HS9
          (try simp only [Act.put, List.setIfInBounds_toArray, List.set_cons_zero, List.set_cons_succ])
          refine' ordG_take 4 (oi := _) (v := _) ?_ ?_ ?_ (Or.inl ⟨?_, ?_⟩) ?_ ?_
          rotate_left 2
          · (simp only [List.getElem?_toArray, List.getElem?_cons_zero, List.getElem?_cons_succ]; rfl)
          · kernel_rfl
          · exact fun _ _ _ h => h
          · rfl
          · (intro w hSw; (try dsimp only at hSw); go_simp; (try with_reducible rfl))
          · exact HS9
          (try simp only [Act.put, List.setIfInBounds_toArray, List.set_cons_zero, List.set_cons_succ])
          refine ordG_all (rs := [5]) (by kernel_rfl) (by simp) (by decide) ?_
          refine' ordG_cons (o := _) ?_ (fun K hK => ?_) ordG_nil
          rotate_left 1
          · (simp only [List.getElem?_toArray, List.getElem?_cons_zero, List.getElem?_cons_succ]; rfl)
          go_simp
          go_at_call 35
          refine (HCD.out _ (HRDY.out.ext (Ext.refl _).drew)).mono ?_
          rintro e w5 ⟨rfl, rfl⟩
          go_simp
          refine hK.out _ _ HS9 ?_
          clear hK K
          (try simp only [Act.put, List.setIfInBounds_toArray, List.set_cons_zero, List.set_cons_succ])
          refine' ordG_take 6 (oi := _) (v := _) ?_ ?_ ?_ (Or.inl ⟨?_, ?_⟩) ?_ ?_
          rotate_left 2
          · (simp only [List.getElem?_toArray, List.getElem?_cons_zero, List.getElem?_cons_succ]; rfl)
          · kernel_rfl
          · exact fun _ _ _ h => h
          · rfl
          · (intro w hSw; (try dsimp only at hSw); go_simp; (try with_reducible rfl))
          · exact HS9
          (try simp only [Act.put, List.setIfInBounds_toArray, List.set_cons_zero, List.set_cons_succ])
          refine' ordG_take 7 (oi := _) (v := _) ?_ ?_ ?_ (Or.inl ⟨?_, ?_⟩) ?_ ?_
          rotate_left 2
          · (simp only [List.getElem?_toArray, List.getElem?_cons_zero, List.getElem?_cons_succ]; rfl)
          · kernel_rfl
          · exact fun _ _ _ h => h
          · rfl
          · (intro w hSw; (try dsimp only at hSw); go_simp; (try with_reducible rfl))
          · exact HS9
          (try simp only [Act.put, List.setIfInBounds_toArray, List.set_cons_zero, List.set_cons_succ])
          refine' ordG_take 8 (oi := _) (v := _) ?_ ?_ ?_ (Or.inl ⟨?_, ?_⟩) ?_ ?_
          rotate_left 2
          · (simp only [List.getElem?_toArray, List.getElem?_cons_zero, List.getElem?_cons_succ]; rfl)
          · kernel_rfl
          · exact fun _ _ _ h => h
          · rfl
          · (intro w hSw; (try dsimp only at hSw); go_simp; (try with_reducible rfl))
          · exact HS9
          (try simp only [Act.put, List.setIfInBounds_toArray, List.set_cons_zero, List.set_cons_succ])
          refine' ordG_take 9 (oi := _) (v := _) ?_ ?_ ?_ (Or.inr ⟨?_, ?_⟩) ?_ ?_
          rotate_left 2
          · (simp only [List.getElem?_toArray, List.getElem?_cons_zero, List.getElem?_cons_succ]; rfl)
          · kernel_rfl
          · exact fun _ _ _ h => h
          · rfl
          · rfl
          · exact HS9
          (try simp only [Act.put, List.setIfInBounds_toArray, List.set_cons_zero, List.set_cons_succ])
          refine' ordG_take 10 (oi := _) (v := _) ?_ ?_ ?_ (Or.inr ⟨?_, ?_⟩) ?_ ?_
          rotate_left 2
          · (simp only [List.getElem?_toArray, List.getElem?_cons_zero, List.getElem?_cons_succ]; rfl)
          · kernel_rfl
          · exact fun _ _ _ h => h
          · rfl
          · rfl
          · exact HS9
          (try simp only [Act.put, List.setIfInBounds_toArray, List.set_cons_zero, List.set_cons_succ])
          refine' ordG_take 11 (oi := _) (v := _) ?_ ?_ ?_ (Or.inr ⟨?_, ?_⟩) ?_ ?_
          rotate_left 2
          · (simp only [List.getElem?_toArray, List.getElem?_cons_zero, List.getElem?_cons_succ]; rfl)
          · kernel_rfl
          · exact fun _ _ _ h => h
          · rfl
          · rfl
          · exact HS9
          (try simp only [Act.put, List.setIfInBounds_toArray, List.set_cons_zero, List.set_cons_succ])
          refine' ordG_take 12 (oi := _) (v := _) ?_ ?_ ?_ (Or.inr ⟨?_, ?_⟩) ?_ ?_
          rotate_left 2
          · (simp only [List.getElem?_toArray, List.getElem?_cons_zero, List.getElem?_cons_succ]; rfl)
          · kernel_rfl
          · exact fun _ _ _ h => h
          · rfl
          · rfl
          · exact HS9
          (try simp only [Act.put, List.setIfInBounds_toArray, List.set_cons_zero, List.set_cons_succ])
          refine' ordG_take 13 (oi := _) (v := _) ?_ ?_ ?_ (Or.inr ⟨?_, ?_⟩) ?_ ?_
          rotate_left 2
          · (simp only [List.getElem?_toArray, List.getElem?_cons_zero, List.getElem?_cons_succ]; rfl)
          · kernel_rfl
          · exact fun _ _ _ h => h
          · rfl
          · rfl
          · exact HS9
          (try simp only [Act.put, List.setIfInBounds_toArray, List.set_cons_zero, List.set_cons_succ])
          refine' ordG_take 14 (oi := _) (v := _) ?_ ?_ ?_ (Or.inr ⟨?_, ?_⟩) ?_ ?_
          rotate_left 2
          · (simp only [List.getElem?_toArray, List.getElem?_cons_zero, List.getElem?_cons_succ]; rfl)
          · kernel_rfl
          · exact fun _ _ _ h => h
          · rfl
          · rfl
          · exact HS9
          (try simp only [Act.put, List.setIfInBounds_toArray, List.set_cons_zero, List.set_cons_succ])
          refine' ordG_take 15 (oi := _) (v := _) ?_ ?_ ?_ (Or.inr ⟨?_, ?_⟩) ?_ ?_
          rotate_left 2
          · (simp only [List.getElem?_toArray, List.getElem?_cons_zero, List.getElem?_cons_succ]; rfl)
          · kernel_rfl
          · exact fun _ _ _ h => h
          · rfl
          · rfl
          · exact HS9
          (try simp only [Act.put, List.setIfInBounds_toArray, List.set_cons_zero, List.set_cons_succ])
          refine' ordG_take 16 (oi := _) (v := _) ?_ ?_ ?_ (Or.inr ⟨?_, ?_⟩) ?_ ?_
          rotate_left 2
          · (simp only [List.getElem?_toArray, List.getElem?_cons_zero, List.getElem?_cons_succ]; rfl)
          · kernel_rfl
          · exact fun _ _ _ h => h
          · rfl
          · rfl
          · exact HS9
          (try simp only [Act.put, List.setIfInBounds_toArray, List.set_cons_zero, List.set_cons_succ])
          refine' ordG_take 17 (oi := _) (v := _) ?_ ?_ ?_ (Or.inr ⟨?_, ?_⟩) ?_ ?_
          rotate_left 2
          · (simp only [List.getElem?_toArray, List.getElem?_cons_zero, List.getElem?_cons_succ]; rfl)
          · kernel_rfl
          · exact fun _ _ _ h => h
          · rfl
          · rfl
          · exact HS9
          (try simp only [Act.put, List.setIfInBounds_toArray, List.set_cons_zero, List.set_cons_succ])
          refine ordG_last (by kernel_rfl) (by kernel_rfl) ?_
          refine' wpOp_step (o := _) ?_ (fun K hK => ?_)
          rotate_left 1
          · (simp only [List.getElem?_toArray, List.getElem?_cons_zero, List.getElem?_cons_succ]; rfl)
          go_simp
          refine hK _ _ ?_
          clear hK K HS9
          (try simp only [Act.put, List.setIfInBounds_toArray, List.set_cons_zero, List.set_cons_succ])
          have XD := hd (Ext.refl wr).drew
          go_wp2
          go_roundw
          case rel => exact ⟨k + 1, gs, by omega, by omega, by go_num, HG2, own_ext HO.out XD.out, HX.out.trans XD.out⟩
          case measure => simp [intOf]; omega
      · obtain rfl : k = zs.length := by omega
        have HTA : Hid (AL.take zs.length = AL) := hd (List.take_of_length_le (by omega))
        rw [HTA.out] at HG
        have HGN := hd (gon_none (n := n) (q := q) HSUB.out)
        have HSX := hd hS
        obtain ⟨A8, c8, e8, -⟩ := OwnI.form HO.out
        subst e8
        clear hS
        by_cases hz : gs.length = 0
        · obtain rfl : gs = [] := List.eq_nil_of_length_eq_zero hz
          have HALL : Hid (L.all (keepB n q L) = true) := hd (HGN.out.1 (by have e := congrArg List.length HG.out; rw [List.length_map] at e; rw [← e]; rfl))
          have HTF : Hid (Tells n (tellB bs) (shrL n q AL)) := hd (by rw [HSHR.out, shrL_yes HALL.out]; exact HT.out)
          clear hz
          go_wp2
          go_ret
          exact ⟨w1, pb, gi, gr, N, _, _, _, AA, cA, bs, rs, zs, rfl, HSX.out, HO1.out, HR1.out, HS1.out, HTF.out, XW.out, HNN.out.symm⟩
        · have hz' : ¬ (gs.length : Int) = 0 := by omega
          obtain ⟨G, hGG⟩ : ∃ G, AL.filter (gonL n q L) = G := ⟨_, rfl⟩
          have HGG := hd hGG
          rw [hGG] at HG HGN
          have HANY : Hid (L.all (keepB n q L) = false) := hd (by
            cases h : L.all (keepB n q L)
            · rfl
            · have := HGN.out.2 h
              have e := congrArg List.length HG.out
              rw [List.length_map] at e
              omega)
          have HGR : Hid (∀ y ∈ G, Ris (n : Int) y) := hd fun y hy => HAR.out y (by rw [← HGG.out] at hy; exact (List.mem_filter.1 hy).1)
          have hgG : gs.length ≤ G.length := by rw [HG.out, List.length_map]; exact Nat.le_refl _
          have hgG2 : G.length ≤ gs.length := by rw [HG.out, List.length_map]; exact Nat.le_refl _
          have HGE : Hid (∀ j (h : j < gs.length) (h' : j < G.length), gs[j] = ((codeA G[j] : Nat) : Int)) := hd fun j h h' => by
            have e := congrArg (fun l => l[j]?) HG.out
            simpa [h, h'] using e
          have HT0 : Hid (∀ b, Ris (n : Int) b → tellB bs (codeA b) = (decide (b ∈ L) && decide (b ∉ G.take 0))) := hd fun b hb => by rw [HT.out b hb]; simp
          clear hz hGG HG HT HGN
          go_wp2
          go_loopw [79] (fun jv wr => ∃ (j : Nat) (bs : List Bool) (rs : List Int), j ≤ gs.length ∧ jv = .int .i64 (j : Int) ∧ Shi w1 wr pb gi gr N (.int .i64 (n : Int)) (.slice A cs.length c) (.int .i64 (q : Int)) (.slice AA zs.length cA) bs rs ∧ Hid (∀ b, Ris (n : Int) b → tellB bs (codeA b) = (decide (b ∈ L) && decide (b ∉ G.take j))) ∧ OwnI wr wo.heap.size 3 (.slice A8 gs.length c8) gs) (fun jv _ => gs.length - (intOf jv).toNat)
          case atStart => exact ⟨0, bs, rs, by omega, rfl, HSX.out, HT0, HO.out⟩
          case round =>
            clear HT0 HSX HO HX
            obtain ⟨j, bs, rs, hj, rfl, hS, HTJ, ho⟩ := hrel
            have HSJ := hd hS
            have HOJ := hd ho
            by_cases hlt3 : j < gs.length
            · have hjG : j < G.length := by omega
              obtain ⟨a8, e8, hcj⟩ := RdI.at_ (hd ho.rd) hlt3
              subst e8
              have HYR := hd (HGR.out _ (List.getElem_mem hjG))
              rw [HGE.out j hlt3 hjG] at hcj
              have HTK : Hid (G.take (j + 1) = G.take j ++ [G[j]]) := hd (List.take_succ_eq_append_getElem hjG)
              have hcl := HCL.out _ HYR.out
              have HTO := hd (tell_off HTJ.out HYR.out (by rw [hS.il]; exact hcl))
              rw [← HTK.out] at HTO
              generalize codeA G[j] = C at *
              obtain ⟨⟨u1, p1⟩, p2, p3⟩ := hS.off hcl
              obtain ⟨⟨u2, q1⟩, q2, -⟩ := hS.mark hcl (r : Int)
              obtain ⟨⟨u3, r1⟩, r2, r3⟩ := p3.mark hcl (r : Int)
              obtain ⟨-, -, -, -, m4, m5, -, -⟩ := b6 hS.bx
              obtain ⟨-, -, -, -, n4, n5, -, -⟩ := b6 p3.bx
              have hne : ¬ gi = gr := fun e => own_ne (ownB_own hS.i) (ownI_own hS.r) (by decide) (g := gi) rfl (by rw [e]; rfl)
              have hpi : ¬ gi = pb := fun e => own_box (ownB_own hS.i) hS.bx (by decide) pb (by rw [← e]; rfl) rfl
              have HO9 : Hid (OwnI ((wr.setCell ⟨gi, C, none⟩ (.bool false)).setCell ⟨gr, C, none⟩ (.int .i64 (r : Int))) wo.heap.size 3 (.slice (some a8) gs.length c8) gs) := hd (by
                have o1 : OwnI (wr.setCell ⟨gi, C, none⟩ (.bool false)) wo.heap.size 3 (.slice (some a8) gs.length c8) gs := own_grown (ownI_own ho) (grown_set (grown_refl wr (some gi)) C (.bool false)) (fun k a b => own_ne (ownI_own ho) (ownB_own hS.i) (by decide) a b)
                exact own_grown (ownI_own o1) (grown_set (grown_refl _ (some gr)) C (.int .i64 (r : Int))) (fun k a b => by have h1 := ownI_ge o1 k a; have h2 := Option.some.inj b; have h3 := HGRB.out; omega))
              have HS9 := hd r3
              have hC0 : (0 : Int) ≤ (C : Int) := by omega
              have hC1 : (C : Int) < (N : Int) := by omega
              have hjj : (j : Int) < (gs.length : Int) := by omega
              clear hS ho p3 r3
              go_wp2
              go_roundw
              case rel => exact ⟨j + 1, _, _, by omega, by go_num, HS9.out, HTO, HO9.out⟩
              case measure => simp [intOf]; omega
            · obtain rfl : j = gs.length := by omega
              have HTA2 : Hid (G.take gs.length = G) := hd (List.take_of_length_le (by omega))
              have HTC : Hid (Tells n (tellB bs) (cutL n q L)) := hd (tell_cut HSUB.out (by rw [HGG.out, ← HTA2.out]; exact HTJ.out))
              have hless : (cutL n q L).length + (r + 1) ≤ AL.length + 1 := by
                have := shr_less (n := n) (w := q) (L := L) (by rw [HANY.out]; decide)
                omega
              have HSH2 : Hid (shrL n q AL = shrL n q (cutL n q L)) := hd (by rw [HSHR.out, shrL_no HANY.out])
              have HSC := hd (HSUB.out.cut (n := n) (q := q))
              clear hS ho
              go_wp2
              go_roundw
              case rel => exact ⟨r + 1, bs, rs, cutL n q L, by go_num, by omega, hless, HSJ.out, HTC, HSC, HSH2⟩
              case measure => simp [intOf]; omega
end Go.Proofs.YtbdcomkbpapcaaaGreat
