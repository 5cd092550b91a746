import Derived.Test.YtbdcomkbpapcaaaGreatFamB
import Derived.Test.YtbdcomkbpapcaaaGreatGfZ
import Derived.Test.YtbdcomkbpapcaaaGreatMg8
/-
  cloneLists: lists in new memory. Condition: up to 2^20 lists of up to 2^20 numbers.
-/
/-
  Greatest families: what is left, HasFamily and GreatestFamily of the program. Condition: sizes up to 2^20.
-/

namespace Go.Proofs.YtbdcomkbpapcaaaGreat
open Go.RowKit
set_option maxHeartbeats 800000 in
theorem i_cloneLists (xss : List (List Int)) (v : Value) (w : World) (h : RdSS w v xss) (hl : xss.length ≤ 1048576) (hr : ∀ xs ∈ xss, xs.length ≤ 1048576) :
    Calls Tryz.prog 38 #[v] w (RetSS w 37 3 xss) := by
  obtain ⟨A, c, rfl, h1, h2, ha⟩ := h.form
  have HL : Hid (∀ k (hk : k < xss.length), xss[k].length ≤ 1073741824) := hd fun k hk => by have := hr _ (List.getElem_mem hk); omega
  clear h hr
  go_enter Tryz.func38, Tryz.ntmps38
  go_wp2
  go_loopw [8, 3, 5] (fun i v _ wr => ∃ k : Nat, k ≤ xss.length ∧ i = .int .i64 k ∧ OwnSS wr w.heap.size wr.heap.size 37 3 v (xss.take k) ∧ Ext w wr) (fun i _ _ _ => xss.length - (intOf i).toNat)
  case atStart => exact ⟨0, by omega, rfl, ⟨[], own_nil _ _ _ _, (fun g hg => by cases hg), rfl, (fun i u xs h => by simp at h), (fun i j u u' g _ h => by simp at h)⟩, Ext.refl _⟩
  case round =>
    obtain ⟨k, hk, rfl, ho, hx⟩ := hrel
    have HX := hd hx
    have HO := hd ho
    have hls := hx.size
    clear ho hx
    by_cases hlt : k < xss.length
    · obtain ⟨a, u, rfl, hc0, hrow⟩ := RdSS.at_ ha hlt
      have hc := HX.out.cell hc0
      have hkl := HL.out k hlt
      have HT : Hid (xss.take (k + 1) = xss.take k ++ [xss[k]]) := hd (by rw [List.take_add_one, List.getElem?_eq_getElem hlt]; rfl)
      have hlen : (xss.take k).length = k := by rw [List.length_take]; omega
      have HRW := hd (hrow.ext HX.out)
      clear hc0 hrow
      generalize xss[k] = y at *
      obtain ⟨A3, c3, rfl, -⟩ := HRW.out.form
      go_wp2_with fail
      refine (slices_Clone y _ wr HRW.out hkl).mono ?_
      rintro e w1 ⟨u1, rfl, hu1, hx1⟩
      have HU := hd hu1
      have X1 := hd hx1
      clear hu1 hx1
      obtain ⟨A4, c4, rfl, HU4⟩ := HU.out.form
      go_wp2_with (at_builtin; refine appL w1 (HO.out.ext X1.out) HU4.out hls X1.out.size rfl _ _ rfl (by rfl) (by rfl) (by rw [hlen]; omega) ?_; intro v' w2 ho2 hg2)
      go_roundw
      case rel => exact ⟨k + 1, by omega, by go_num, by rw [HT.out]; exact ho2, ext_app (HX.out.trans X1.out) hg2 (fun g hg => by obtain ⟨vs, a1, _, _⟩ := HO.out; exact (own_blocks a1 g hg).1)⟩
      case measure => simp [intOf]; omega
    · obtain rfl : k = xss.length := by omega
      have HO2 : Hid (OwnSS wr w.heap.size wr.heap.size 37 3 _ xss) := hd (by have := HO.out; rw [List.take_length] at this; exact this)
      clear HO
      go_wp2
      go_ret
      exact ⟨_, rfl, HO2.out, HX.out⟩
end Go.Proofs.YtbdcomkbpapcaaaGreat
namespace Go.Proofs.YtbdcomkbpapcaaaGreat
open Go.RowKit Seed
theorem ownSS_form {w : World} {lo hi : Nat} {v : Value} {xss : List (List Int)} (h : OwnSS w lo hi 37 3 v xss) : ∃ A c, v = .slice A xss.length c := by
  obtain ⟨vs, h1, _, _⟩ := h
  obtain ⟨_, A, c, e, _⟩ := own_rd h1
  exact ⟨A, c, e⟩
theorem enters_left1 : Enters 39 := fun args w => by kernel_rfl
set_option maxHeartbeats 1600000 in
theorem i_left1 (n : Nat) (N : Nat) (a : List Int) (bs : List Bool) (u : Value) (bb pb gi : Nat) (w : World) (hn : n ≤ 6) (hNN : 3 ^ n = N) (h1 : w.cell? ⟨bb, 0, none⟩ = some (.pointer (some ⟨pb, 0, none⟩))) (h2 : w.cell? ⟨pb, 4, none⟩ = some (.slice (some ⟨gi, 0, none⟩) N N)) (hB : RdB w (.slice (some ⟨gi, 0, none⟩) N N) bs) (hbl : bs.length = N) (hu : RdI w u a) (hr : Ris (n : Int) a) :
    Calls Tryz.prog 39 (#[u] ++ #[.pointer (some ⟨bb, 0, none⟩)]) w (RetX w (.bool (!tellB bs (codeA a)))) := by
  have hcl : codeA a < N := by rw [← hNN]; exact code_lt n a hr
  obtain ⟨g2, e2, hcb⟩ := RdB.at_ (hd hB) (by rw [hbl]; exact hcl : codeA a < bs.length)
  injection e2 with e2
  subst e2
  rw [add_gkZ] at hcb
  have HTA : Hid (tellB bs (codeA a) = bs[codeA a]'(by rw [hbl]; exact hcl)) := hd (tell_atZ (by rw [hbl]; exact hcl))
  rw [← HTA.out] at hcb
  have HCD := hd (fun w' hu => i_codeOf n a u w' hu hr hn)
  have hp3 := pow36 hn
  have hNb : N ≤ 729 := by omega
  have HU := hd (fun m => hu.ext (ext_drewN w m))
  obtain ⟨A, c, rfl, -⟩ := hu.form
  clear HTA hB hbl hu hNN hp3
  generalize tellB bs (codeA a) = t at *
  generalize codeA a = C at *
  have hC0 : (0 : Int) ≤ (C : Int) := by omega
  have hC1 : (C : Int) < (N : Int) := by omega
  show Calls Tryz.prog 39 #[.slice A a.length c, .pointer (some ⟨bb, 0, none⟩)] w (RetX w (.bool (!t)))
  go_enter Tryz.func39, Tryz.ntmps39
  go_wp2_with fail
  go_quiet ((go_at_call 35; first | exact q_same (HCD.out _ (HU.out _)) | exact q_same' (HCD.out _ (HU.out _))))
  go_wp2
  go_ret
  exact RetX.mk rfl (ext_drewN _ _)
theorem rowN_own {w : World} {lo : Nat} {u : Value} {xs : List Int} (h : OwnI w lo 3 u xs) : RowN w (u, xs) := by
  have h0 := h.rd
  rcases h.2 with ⟨hv, hn⟩ | ⟨g, cap, cur, rfl, _, hb, _⟩
  · exact .inl ⟨hv, List.eq_nil_of_length_eq_zero hn⟩
  · exact .inr ⟨h0, ⟨g, 0, none⟩, cap, rfl, cur, _, hb⟩
set_option maxRecDepth 100000 in
set_option maxHeartbeats 3200000 in
theorem i_left (w0 w1 w : World) (n : Nat) (pb gi gr N : Nat) (x0 x1 x2 : Value) (AA : Option Addr) (cA : Nat) (bs : List Bool) (rs : List Int) (zs : List Row) (AL : List (List Int)) (hn : n ≤ 6) (hNN : 3 ^ n = N) (hS : Shi w1 w pb gi gr N x0 x1 x2 (.slice AA zs.length cA) bs rs) (hO : OutZ w1 w0.heap.size (.slice AA zs.length cA) zs) (hR : ∀ z ∈ zs, RowN w1 z) (hA : zs.map Prod.snd = AL) (hris : Hid (∀ b ∈ AL, Ris (n : Int) b)) (hal : AL.length ≤ 729) :
    Calls Tryz.prog 20 #[.pointer (some ⟨pb, 0, none⟩)] w (RetSS w 37 3 (AL.filter fun b => tellB bs (codeA b))) := by
  have HS := hd hS
  have HRD : Hid (RdSS w (.slice AA zs.length cA) AL) := hd (by rw [← hA]; exact outZ_rdss (own_ext hO hS.x) fun z hz => ((hR z hz).ext hS.x).rd)
  have hzl : zs.length = AL.length := by rw [← hA, List.length_map]
  obtain ⟨-, -, -, m3, -, -, -, -⟩ := b6 ((hS.ext (Ext.new w (.cells #[.pointer (some ⟨pb, 0, none⟩)] 41))).bx)
  have X0 := hd (Ext.new w (.cells #[.pointer (some ⟨pb, 0, none⟩)] 41))
  have HCL := hd (i_cloneLists AL (.slice AA zs.length cA) _ (HRD.out.ext X0.out) (by omega) (fun xs hx => by have := (hris.out xs hx).len; omega))
  have kb := cell_of1 (heap_n1 w (.cells #[.pointer (some ⟨pb, 0, none⟩)] 41))
  have HKB := hd kb
  clear hS hO hR hA HRD hzl
  go_enter Tryz.func20, Tryz.ntmps20
  go_wp2_with fail
  refine HCL.out.mono ?_
  rintro e w2 ⟨v2, rfl, hss, hx2⟩
  have X2 := hd (X0.out.trans hx2)
  have HKB2 := hd (hx2.cell HKB.out)
  have HS2 := hd (HS.out.ext X2.out)
  obtain ⟨us, hus, ho, hz⟩ := hss.rows
  have HO := hd ho
  have HZ := hd hz
  have HUS := hd hus
  have HZN : Hid (∀ z ∈ us, RowN w2 z) := hd fun z hzz => rowN_own (hz.1 z hzz).1
  have hul : us.length ≤ 1048576 := by
    have e := congrArg List.length hus
    rw [List.length_map] at e
    omega
  have HP : Hid (∀ z ∈ us, ∀ (u : Value) (w' : World), w2.grownBy w' v2.ownBlock → RdI w' u z.2 → Calls Tryz.prog 39 (#[u] ++ #[.pointer (some ⟨w.heap.size, 0, none⟩)]) w' (RetX w' (.bool ((fun xs => !tellB bs (codeA xs)) z.2)))) := hd fun z hzz u w' hg hu => by
    have hy : Ris (n : Int) z.2 := hris.out z.2 (by rw [HUS.out]; exact List.mem_map_of_mem hzz)
    have hB2 : w2.heap[w.heap.size]? = some (.cells #[.pointer (some ⟨pb, 0, none⟩)] 41 (0, 0)) := hx2.heap (heap_n1 _ _)
    have c1 := cell_of1 ((hg.block _ (Array.getElem?_eq_some_iff.1 hB2).1 fun e => own_box HO.out hB2 (by decide) _ e.symm rfl).trans hB2)
    have c2 := (b6 ((hg.block pb (Array.getElem?_eq_some_iff.1 HS2.out.bx).1 fun e => own_box HO.out HS2.out.bx (by decide) pb e.symm rfl).trans HS2.out.bx)).2.2.2.2.1
    have c3 : OwnB w' w1.heap.size 4 (.slice (some ⟨gi, 0, none⟩) N N) bs := own_grown (ownB_own HS2.out.i) hg fun k a b => own_ne (ownB_own HS2.out.i) HO.out (by decide) a b
    exact i_left1 n N z.2 bs u w.heap.size pb gi w' hn hNN c1 c2 c3.rd HS2.out.il hu hy
  have HD := hd (slices_DeleteFuncZ us v2 39 #[.pointer (some ⟨w.heap.size, 0, none⟩)] (fun xs => !tellB bs (codeA xs)) w2 _ HO.out HZN hul enters_left1 HP)
  have hsz := X0.out.size
  have HSZ := hd hsz
  obtain ⟨A2, c2, e2, -⟩ := OutZ.form ho
  clear ho hz hus hx2 hsz hul
  subst e2
  go_wp2_with fail
  refine HD.out.mono ?_
  rintro e w3 ⟨v3, rfl, ho3, hg3, hb3⟩
  have HFF : Hid (us.filter (fun z => !(fun xs => !tellB bs (codeA xs)) z.2) = us.filter (fun z => tellB bs (codeA z.2))) := hd (by congr 1; funext z; simp)
  rw [HFF.out] at ho3
  have HR3 : Hid (OwnSS w3 w.heap.size w3.heap.size 37 3 v3 (AL.filter fun b => tellB bs (codeA b))) := hd (by
    have hz3 := ((HZ.out.grownO HO.out hg3).sub (ys := us.filter (fun z => tellB bs (codeA z.2))) List.filter_sublist).lo_le HSZ.out
    have hh : (us.filter (fun z => tellB bs (codeA z.2))).map Prod.snd = AL.filter fun b => tellB bs (codeA b) := by
      rw [HUS.out, List.filter_map]; rfl
    rw [← hh]
    exact (hz3.hi_le hg3.size).ss (own_rebase ho3 HSZ.out) (fun k hk => by rw [hb3] at hk; have := (own_blocks HO.out k hk).2; have := hg3.size; omega))
  have X3 := hd (X2.out.grown hg3 X2.out.size (fun k hk => by have h1 := ownZ_ge HO.out k hk; have := HSZ.out; omega))
  clear ho3 hg3 hb3 HD HP
  go_wp2
  go_ret
  exact ⟨_, rfl, HR3.out, X3.out⟩
theorem ownSS_loI {w : World} {lo lo' hi : Nat} {v : Value} {xss : List (List Int)} (h : OwnSS w lo hi 37 3 v xss) (hl : lo' ≤ lo) : OwnSS w lo' hi 37 3 v xss := by
  obtain ⟨zs, rfl, ho, hz⟩ := h.rows
  obtain ⟨vs, h1, h2, _⟩ := h
  exact (hz.lo_le hl).ss (own_rebase ho hl) h2
set_option maxRecDepth 100000 in
set_option maxHeartbeats 1600000 in
theorem i_GreatestFamily (f : Cnf) (v : Value) (x : Int) (w : World) (h : Rd_Cnf w v f) (b : Bd_Cnf f) (_ : I64_Cnf f) (_ : I64 x) :
    Calls Tryz.prog 7 #[v, .int .i64 x] w (RetSS2 w (famF f x) (askF f x)) := by
  have HV := hd h
  have HB := hd b
  obtain ⟨A, c, rfl⟩ := h.form
  clear h b
  obtain ⟨p, hp⟩ : ∃ p, askF f x = p := ⟨_, rfl⟩
  have HAC := hd (rtx (i_narrowOk f x _ _ (HV.out.ext (Ext.new w (.cells #[.int .i64 f.n, .slice A f.cs.length c] 28))) HB.out) (hd hp))
  cases p
  · rw [famF_no hp, hp]
    clear hp
    go_enter Tryz.func7, Tryz.ntmps7
    go_wp2_with fail
    refine HAC.out.mono ?_
    rintro e w1 ⟨rfl, hx1⟩
    have X1 := hd ((Ext.new _ _).trans hx1)
    have HE : Hid (Own_IntSS w1 w.heap.size w1.heap.size (.slice none 0 0) []) := hd ⟨[], own_nil _ _ _ _, (fun g hg => by cases hg), rfl, (fun i u xs h => by simp at h), (fun i j u u' g _ h => by simp at h)⟩
    clear hx1
    go_wp2
    go_ret2
    exact ⟨_, rfl, HE.out, X1.out⟩
  · obtain ⟨n, q, cs, rfl, rfl, hn, hq, hl, hc, hF⟩ := askF_inv hp
    rw [hF, hp]
    have HSC := hd (fun w' hx => i_shrink n cs q _ w' hn hl (hd hc) hq (HV.out.ext hx) : ∀ w', Ext w w' → _)
    have HLC : Hid (∀ (w1 w2 : World) (w0 : World) (pb gi gr N : Nat) (x0 x1 x2 : Value) (AA : Option Addr) (cA : Nat) (bs : List Bool) (rs : List Int) (zs : List Row), Shi w1 w2 pb gi gr N x0 x1 x2 (.slice AA zs.length cA) bs rs → OutZ w1 w0.heap.size (.slice AA zs.length cA) zs → (∀ z ∈ zs, RowN w1 z) → zs.map Prod.snd = insA (allA cs n q) → Tells n (tellB bs) (shrL n q (insA (allA cs n q))) → N = 3 ^ n →
        Calls Tryz.prog 20 #[.pointer (some ⟨pb, 0, none⟩)] w2 (RetSS w2 37 3 (famL cs n q))) := hd fun w1 w2 w0 pb gi gr N x0 x1 x2 AA cA bs rs zs hS hO hR hA hT hN => by
      have h := i_left w0 w1 w2 n pb gi gr N x0 x1 x2 AA cA bs rs zs (allL cs n q) hn hN.symm hS hO hR hA (hd fun b hb => allL_risA hb) (allL_lenA hn)
      rw [famL_tells hT] at h
      exact h
    simp only at *
    clear hp hc hF
    generalize famL cs n q = L at *
    go_enter Tryz.func7, Tryz.ntmps7
    go_wp2_with fail
    refine HAC.out.mono ?_
    rintro e w1 ⟨rfl, hx1⟩
    have X1 := hd ((Ext.new _ _).trans hx1)
    obtain ⟨k0, k1⟩ := blk2 (hx1.heap (heap_n1 w _))
    clear hx1
    go_wp2_with fail
    refine (HSC.out _ X1.out).mono ?_
    rintro e w2 ⟨wa, pb, gi, gr, N, x0, x1, x2, AA, cA, bs, rs, zs, rfl, hS, hO, hR, hA, hT, hxa, hN⟩
    have X2 := hd (X1.out.trans (hxa.trans hS.x))
    have HLF := hd (HLC.out wa w2 _ pb gi gr N x0 x1 x2 AA cA bs rs zs hS hO hR hA hT hN)
    clear hS hO hR hA hT hxa hN
    go_wp2_with fail
    refine HLF.out.mono ?_
    rintro e w3 ⟨v3, rfl, hss, hx3⟩
    have HO3 := hd (ownSS_loI hss X2.out.size)
    have X3 := hd (X2.out.trans hx3)
    clear hss hx3
    go_wp2
    go_ret2
    exact ⟨_, rfl, HO3.out, X3.out⟩
end Go.Proofs.YtbdcomkbpapcaaaGreat
