import Derived.Test.YtbdcomkbpapcaaaDefJ
import Derived.Test.YtbdcomkbpapcaaaLaw
import Derived.Test.YtbdcomkbpapcaaaFrame
/-
  DefiningCnf: the formula is small. No condition.
-/
/-
  FnExactDefiningCnf: the walk: for all arguments the law returns true. No condition.
-/

namespace Go.Proofs.Ytbdcomkbpapcaaa
open Go.RowKit Go.Sort Seed
theorem putA_len (c : List Int) (l : Int) : (putA c l).length = c.length + 1 := by
  have := posA_le c l
  unfold putA
  rw [List.length_append, List.length_cons, List.length_take, List.length_drop]
  omega
theorem clO_len : ∀ (xs : List Int) (o : Option (List Int)) (c : List Int), xs.foldl joinO o = some c → ∃ a, o = some a ∧ c.length ≤ a.length + xs.length
  | [], o, c, h => ⟨c, h, by simp⟩
  | l :: r, o, c, h => by
    obtain ⟨a, ha, hl⟩ := clO_len r (joinO o l) c h
    unfold joinO at ha
    split at ha
    · cases ha
    · rename_i a0
      refine ⟨a0, rfl, ?_⟩
      rw [List.length_cons]
      split at ha
      · cases ha
      · split at ha
        · obtain rfl := Option.some.inj ha; omega
        · obtain rfl := Option.some.inj ha
          rw [putA_len] at hl; omega
theorem rawD_row (y : Fm) (v x z : Int) : ∀ xs ∈ rawD y v x z, xs.length ≤ 3 := by
  intro xs h
  cases y with
  | leaf c =>
    unfold rawD at h
    simp only at h
    split at h <;> (obtain rfl := List.mem_singleton.1 h; simp)
  | neg a =>
    simp only [rawD, List.mem_cons, List.not_mem_nil, or_false] at h
    rcases h with rfl | rfl <;> simp
  | bin o a b =>
    unfold rawD at h
    simp only at h
    split at h
    · simp only [List.mem_cons, List.not_mem_nil, or_false] at h
      rcases h with rfl | rfl | rfl <;> simp
    · split at h
      · simp only [List.mem_cons, List.not_mem_nil, or_false] at h
        rcases h with rfl | rfl | rfl <;> simp
      · simp only [List.mem_cons, List.not_mem_nil, or_false] at h
        rcases h with rfl | rfl | rfl <;> simp
theorem allD_row (oth : List Bs) (k : Nat) : ∀ c ∈ allD oth k, c.length ≤ 3 := by
  intro c h
  unfold allD at h
  obtain ⟨i, _, hi⟩ := List.mem_flatMap.1 h
  unfold clsD outD at hi
  obtain ⟨xs, hx, hc⟩ := List.mem_filterMap.1 hi
  obtain ⟨a, ha, hl⟩ := clO_len xs (some []) c hc
  obtain rfl := Option.some.inj ha
  have := rawD_row _ _ _ _ xs hx
  simp at hl
  omega
theorem sumD_le : ∀ l : List (List Int), (∀ c ∈ l, c.length ≤ 12) → sumN (lens l) ≤ 12 * l.length
  | [], _ => by simp [lens, sumN]
  | c :: r, hh => by
    have h1 := sumD_le r fun x hx => hh x (by simp [hx])
    have h2 := hh c (by simp)
    have : sumN (lens (c :: r)) = c.length + sumN (lens r) := rfl
    rw [this, List.length_cons]; omega
theorem defF_bd {f : Fm} (h : (othB f).length ≤ 6) : Bd_Cnf (defF f) := by
  have hcl : ∀ c ∈ (defF f).cs, c.length ≤ 12 := fun c hc => by
    rcases List.mem_append.1 hc with hc | hc
    · have := allD_row _ _ c hc; omega
    · obtain rfl := List.mem_singleton.1 hc; simp
  have hl : (defF f).cs.length ≤ 19 := by
    show (allD (othB f) (othB f).length ++ [[varN (othB f) (txt f)]]).length ≤ 19
    have := allD_len (othB f) (othB f).length
    rw [List.length_append, List.length_singleton]; omega
  refine ⟨by omega, fun c hc => by have := hcl c hc; omega, ?_⟩
  have := sumD_le _ hcl
  omega
theorem defV_bd (s : ByteArray) : Bd_Cnf (defV s) := by
  unfold defV
  split
  · split
    · rename_i h; exact defF_bd h
    · exact ⟨by simp, (fun x hx => by simp at hx), by decide⟩
  · exact ⟨by simp, (fun x hx => by simp at hx), by decide⟩
end Go.Proofs.Ytbdcomkbpapcaaa
namespace Go.Proofs.Ytbdcomkbpapcaaa
open Go.RowKit
set_option maxRecDepth 100000 in
set_option maxHeartbeats 3200000 in
theorem w_FnExactDefiningCnf (w : World) (s : ByteArray) (hs : s.size ≤ 9223372036854775807) :
    Calls Try.prog 8 #[.string s] w (RetT w) := by
  have X := hd (Ext.refl w)
  go_enter Try.func8, Try.ntmps8
  by_cases hbigs : 1048576 < s.size
  · go_wp2
    go_ret
    exact RetT.mk rfl X.out
  ·
    have bs := hd (Nat.le_of_not_lt hbigs)
    go_wp2_with fail
    refine (s_DefiningCnf s _ bs.out).mono ?_
    rintro e w2 ⟨u0, rfl, hu0, hx⟩
    have szw2 := hx.size
    replace X := hd (X.out.trans hx)
    obtain ⟨Ar3, cr3, rfl, O3⟩ := hu0.form
    clear hx hu0
    replace X := hd (X.out.alloc (.cells #[.int .i64 (defV s).n, .slice Ar3 (defV s).cs.length cr3] 46))
    replace O3 := hd (O3.out.ext (Ext.new w2 (.cells #[.int .i64 (defV s).n, .slice Ar3 (defV s).cs.length cr3] 46)))
    have B4 := hd (blk_new (w := w2) (.cells #[.int .i64 (defV s).n, .slice Ar3 (defV s).cs.length cr3] 46) rfl)
    have sB4 : w2.heap.size < (w2.alloc (.cells #[.int .i64 (defV s).n, .slice Ar3 (defV s).cs.length cr3] 46)).heap.size := by simp
    go_wp2_with fail
    refine (i_DefiningCnf s _ bs.out).mono ?_
    rintro e w6 ⟨u0, rfl, hu0, hx⟩
    have szw6 := hx.size
    replace X := hd (X.out.trans hx)
    replace O3 := hd (O3.out.ext hx)
    replace B4 := hd (hx.heap B4.out)
    obtain ⟨Ar7, cr7, rfl, O7⟩ := hu0.form
    clear hx hu0
    replace X := hd (X.out.alloc (.cells #[.int .i64 (defV s).n, .slice Ar7 (defV s).cs.length cr7] 46))
    replace O3 := hd (O3.out.ext (Ext.new w6 (.cells #[.int .i64 (defV s).n, .slice Ar7 (defV s).cs.length cr7] 46)))
    replace B4 := hd (blk_old (o' := .cells #[.int .i64 (defV s).n, .slice Ar7 (defV s).cs.length cr7] 46) B4.out)
    replace O7 := hd (O7.out.ext (Ext.new w6 (.cells #[.int .i64 (defV s).n, .slice Ar7 (defV s).cs.length cr7] 46)))
    have B8 := hd (blk_new (w := w6) (.cells #[.int .i64 (defV s).n, .slice Ar7 (defV s).cs.length cr7] 46) rfl)
    have sB8 : w6.heap.size < (w6.alloc (.cells #[.int .i64 (defV s).n, .slice Ar7 (defV s).cs.length cr7] 46)).heap.size := by simp
    obtain ⟨kB8_0, kB8_1⟩ := blk2 B8.out
    obtain ⟨kB4_0, kB4_1⟩ := blk2 B4.out
    go_wp2_with fail
    refine (u_eq_Cnf (defV s) _ _ _ O7.out.rd O3.out.rd (defV_bd s)).mono ?_
    rintro e w9 ⟨rfl, hx⟩
    have szw9 := hx.size
    replace X := hd (X.out.trans hx)
    replace O3 := hd (O3.out.ext hx)
    replace B4 := hd (hx.heap B4.out)
    replace O7 := hd (O7.out.ext hx)
    replace B8 := hd (hx.heap B8.out)
    clear hx kB8_0 kB8_1 kB4_0 kB4_1
    have lnO7 := len_Cnf_bd (defV_bd s)
    obtain ⟨kB8_0, kB8_1⟩ := blk2 B8.out
    go_wp2_with fail
    refine (u_mark_Cnf (defV s) _ _ _ _ _ O7.out (by omega) (defV_bd s) (by omega) (by omega)).mono ?_
    rintro e w10 ⟨rfl, hm, ht⟩
    clear O7
    have szw10 := ht.size
    replace X := hd (touch_ext X.out ht (by omega))
    replace O3 := hd (O3.out.touch ht (by omega))
    replace B4 := hd (touch_blk' ht B4.out (by omega))
    replace B8 := hd (touch_blk' ht B8.out (by omega))
    have M11 := hd hm
    clear hm ht kB8_0 kB8_1
    obtain ⟨kB8_0, kB8_1⟩ := blk2 B8.out
    go_wp2_with fail
    refine (u_held_Cnf (defV s) _ _ _ M11.out (defV_bd s) (by omega) (by omega)).mono ?_
    rintro e w12 ⟨rfl, hx⟩
    have szw12 := hx.size
    replace X := hd (X.out.trans hx)
    replace O3 := hd (O3.out.ext hx)
    replace B4 := hd (hx.heap B4.out)
    replace B8 := hd (hx.heap B8.out)
    replace M11 := hd (M11.out.ext hx)
    clear hx kB8_0 kB8_1
    go_wp2_with fail
    refine (i_DefiningCnf s _ bs.out).mono ?_
    rintro e w14 ⟨u0, rfl, hu0, hx⟩
    have szw14 := hx.size
    replace X := hd (X.out.trans hx)
    replace O3 := hd (O3.out.ext hx)
    replace B4 := hd (hx.heap B4.out)
    replace B8 := hd (hx.heap B8.out)
    replace M11 := hd (M11.out.ext hx)
    obtain ⟨Ar15, cr15, rfl, O15⟩ := hu0.form
    clear hx hu0
    replace X := hd (X.out.alloc (.cells #[.int .i64 (defV s).n, .slice Ar15 (defV s).cs.length cr15] 46))
    replace O3 := hd (O3.out.ext (Ext.new w14 (.cells #[.int .i64 (defV s).n, .slice Ar15 (defV s).cs.length cr15] 46)))
    replace B4 := hd (blk_old (o' := .cells #[.int .i64 (defV s).n, .slice Ar15 (defV s).cs.length cr15] 46) B4.out)
    replace B8 := hd (blk_old (o' := .cells #[.int .i64 (defV s).n, .slice Ar15 (defV s).cs.length cr15] 46) B8.out)
    replace M11 := hd (M11.out.ext (Ext.new w14 (.cells #[.int .i64 (defV s).n, .slice Ar15 (defV s).cs.length cr15] 46)))
    replace O15 := hd (O15.out.ext (Ext.new w14 (.cells #[.int .i64 (defV s).n, .slice Ar15 (defV s).cs.length cr15] 46)))
    have B16 := hd (blk_new (w := w14) (.cells #[.int .i64 (defV s).n, .slice Ar15 (defV s).cs.length cr15] 46) rfl)
    have sB16 : w14.heap.size < (w14.alloc (.cells #[.int .i64 (defV s).n, .slice Ar15 (defV s).cs.length cr15] 46)).heap.size := by simp
    obtain ⟨kB16_0, kB16_1⟩ := blk2 B16.out
    obtain ⟨kB4_0, kB4_1⟩ := blk2 B4.out
    go_wp2_with fail
    refine (u_eq_Cnf (defV s) _ _ _ O15.out.rd O3.out.rd (defV_bd s)).mono ?_
    rintro e w17 ⟨rfl, hx⟩
    have szw17 := hx.size
    replace X := hd (X.out.trans hx)
    replace O3 := hd (O3.out.ext hx)
    replace B4 := hd (hx.heap B4.out)
    replace B8 := hd (hx.heap B8.out)
    replace M11 := hd (M11.out.ext hx)
    replace O15 := hd (O15.out.ext hx)
    replace B16 := hd (hx.heap B16.out)
    clear hx kB16_0 kB16_1 kB4_0 kB4_1
    obtain ⟨kB8_0, kB8_1⟩ := blk2 B8.out
    go_wp2_with fail
    refine (u_held_Cnf (defV s) _ _ _ M11.out (defV_bd s) (by omega) (by omega)).mono ?_
    rintro e w18 ⟨rfl, hx⟩
    have szw18 := hx.size
    replace X := hd (X.out.trans hx)
    replace O3 := hd (O3.out.ext hx)
    replace B4 := hd (hx.heap B4.out)
    replace B8 := hd (hx.heap B8.out)
    replace M11 := hd (M11.out.ext hx)
    replace O15 := hd (O15.out.ext hx)
    replace B16 := hd (hx.heap B16.out)
    clear hx kB8_0 kB8_1
    go_wp2
    go_ret
    exact RetT.mk rfl X.out
end Go.Proofs.Ytbdcomkbpapcaaa
