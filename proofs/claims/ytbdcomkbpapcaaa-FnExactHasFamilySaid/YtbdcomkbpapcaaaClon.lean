import Derived.Test.YtbdcomkbpapcaaaFamB
/-
  cloneLists: lists in new memory. Condition: up to 2^20 lists of up to 2^20 numbers.
-/

namespace Go.Proofs.Ytbdcomkbpapcaaa
open Go.RowKit
set_option maxHeartbeats 800000 in
theorem i_cloneLists (xss : List (List Int)) (v : Value) (w : World) (h : RdSS w v xss) (hl : xss.length ≤ 1048576) (hr : ∀ xs ∈ xss, xs.length ≤ 1048576) :
    Calls Try.prog 86 #[v] w (RetSS w 57 3 xss) := by
  obtain ⟨A, c, rfl, h1, h2, ha⟩ := h.form
  have HL : Hid (∀ k (hk : k < xss.length), xss[k].length ≤ 1073741824) := hd fun k hk => by have := hr _ (List.getElem_mem hk); omega
  clear h hr
  go_enter Try.func86, Try.ntmps86
  go_wp2
  go_loopw [8, 3, 5] (fun i v _ wr => ∃ k : Nat, k ≤ xss.length ∧ i = .int .i64 k ∧ OwnSS wr w.heap.size wr.heap.size 57 3 v (xss.take k) ∧ Ext w wr) (fun i _ _ _ => xss.length - (intOf i).toNat)
  case atStart => exact ⟨0, by omega, rfl, ⟨[], own_nil _ _ _ _, (fun g hg => by cases hg), rfl, (fun i u xs h => by simp at h), (fun i j u u' g _ h => by simp at h)⟩, Ext.refl _⟩
  case round =>
    obtain ⟨k, hk, rfl, ho, hx⟩ := hrel
    have HX := hd hx
    have HO := hd ho
    have hls := hx.size
    clear ho hx
    by_cases hlt : k < xss.length
    · obtain ⟨a, u, rfl, hc0, hrow⟩ := RdSS.at_ ha hlt
      have hc := HX.out.cell hc0
      have hkl := HL.out k hlt
      have HT : Hid (xss.take (k + 1) = xss.take k ++ [xss[k]]) := hd (by rw [List.take_add_one, List.getElem?_eq_getElem hlt]; rfl)
      have hlen : (xss.take k).length = k := by rw [List.length_take]; omega
      have HRW := hd (hrow.ext HX.out)
      clear hc0 hrow
      generalize xss[k] = y at *
      obtain ⟨A3, c3, rfl, -⟩ := HRW.out.form
      go_wp2_with fail
      refine (slices_Clone y _ wr HRW.out hkl).mono ?_
      rintro e w1 ⟨u1, rfl, hu1, hx1⟩
      have HU := hd hu1
      have X1 := hd hx1
      clear hu1 hx1
      obtain ⟨A4, c4, rfl, HU4⟩ := HU.out.form
      go_wp2_with (at_builtin; refine appL w1 (HO.out.ext X1.out) HU4.out hls X1.out.size rfl _ _ rfl (by rfl) (by rfl) (by rw [hlen]; omega) ?_; intro v' w2 ho2 hg2)
      go_roundw
      case rel => exact ⟨k + 1, by omega, by go_num, by rw [HT.out]; exact ho2, ext_app (HX.out.trans X1.out) hg2 (fun g hg => by obtain ⟨vs, a1, _, _⟩ := HO.out; exact (own_blocks a1 g hg).1)⟩
      case measure => simp [intOf]; omega
    · obtain rfl : k = xss.length := by omega
      have HO2 : Hid (OwnSS wr w.heap.size wr.heap.size 57 3 _ xss) := hd (by have := HO.out; rw [List.take_length] at this; exact this)
      clear HO
      go_wp2
      go_ret
      exact ⟨_, rfl, HO2.out, HX.out⟩
end Go.Proofs.Ytbdcomkbpapcaaa
