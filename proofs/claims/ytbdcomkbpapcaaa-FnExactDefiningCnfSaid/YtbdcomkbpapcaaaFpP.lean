import Derived.Test.YtbdcomkbpapcaaaMg7
/-
  The parts of a formula: plain words, and the reference's FormulaParts. Condition: none.
-/

namespace Go.Proofs.Ytbdcomkbpapcaaa
open Go.RowKit Go.Sort
/-- All parts of a tree, as they are collected. -/
def subs : Fm → List Fm
  | .leaf c => [.leaf c]
  | .neg a => .neg a :: subs a
  | .bin o a b => .bin o a b :: (subs a ++ subs b)
theorem subs_len : ∀ f : Fm, (subs f).length ≤ (txt f).length
  | .leaf c => by simp [subs, txt]
  | .neg a => by have := subs_len a; simp [subs, txt]; omega
  | .bin o a b => by have := subs_len a; have := subs_len b; simp [subs, txt]; omega
theorem subs_pos : ∀ f : Fm, 1 ≤ (subs f).length
  | .leaf c => by simp [subs]
  | .neg a => by simp [subs]
  | .bin o a b => by simp [subs]
def allL : Fm → List Bs → List Bs
  | .leaf c, L => putL L (txt (.leaf c))
  | .neg a, L => allL a (putL L (txt (.neg a)))
  | .bin o a b, L => allL b (allL a (putL L (txt (.bin o a b))))
theorem allL_eq : ∀ (f : Fm) (L : List Bs), allL f L = ((subs f).map txt).foldl putL L
  | .leaf c, L => rfl
  | .neg a, L => by rw [allL, allL_eq a]; rfl
  | .bin o a b, L => by rw [allL, allL_eq b, allL_eq a, subs, List.map_cons, List.foldl_cons, List.map_append, List.foldl_append]
theorem foldl_putL_len (xs : List Bs) : ∀ L : List Bs, (xs.foldl putL L).length ≤ L.length + xs.length := by
  induction xs with
  | nil => intro L; simp
  | cons x r ih =>
    intro L
    have h1 := ih (putL L x)
    have h2 := putL_len x L
    rw [List.foldl_cons, List.length_cons]
    omega
theorem allL_len (f : Fm) (L : List Bs) : (allL f L).length ≤ L.length + (subs f).length := by
  rw [allL_eq]
  have := foldl_putL_len ((subs f).map txt) L
  simpa using this
/-- The texts of all different parts, in order. -/
def partsB (f : Fm) : List Bs := sortB ((subs f).map txt)
theorem allL_nil (f : Fm) : allL f [] = partsB f := by
  rw [allL_eq]
  exact sideB_eq _
theorem partsB_len (f : Fm) : (partsB f).length ≤ (txt f).length := by
  have h1 := sortB_len ((subs f).map txt)
  have h2 := subs_len f
  simp at h1
  unfold partsB
  omega
def partsV (s : ByteArray) : List Bs := match goodF s with
  | some f => partsB f
  | none => []
theorem partsV_len (s : ByteArray) : (partsV s).length ≤ 80 := by
  unfold partsV
  cases h : goodF s with
  | none => simp
  | some f =>
    obtain ⟨h1, h2, h3⟩ := goodF_iff.1 h
    have h4 := partsB_len f
    rw [← h2] at h4
    simp at h4 ⊢
    omega
def RetS2 (w : World) (xs : List (List UInt8)) (b : Bool) : Ending → World → Prop := fun e w' => ∃ u, e = .returned (.tuple #[u, .bool b]) ∧ Own_StringS w' w.heap.size w'.heap.size u xs ∧ Ext w w'
theorem partsV_bd (s : ByteArray) : Bd_StringS (partsV s) := by have := partsV_len s; unfold Bd_StringS; omega
theorem lf_tests {c : UInt8} (h : isLf c = true) : ((c.toNat : Int) == 126) = false ∧ ((c.toNat : Int) == 38) = false ∧ ((c.toNat : Int) == 124) = false ∧ ((c.toNat : Int) == 62) = false := by
  rcases byte_cases c with ⟨_, hc | hc | ⟨hc1, hc2⟩⟩ | hc | hc | ⟨h', _⟩
  · rw [hc]; decide
  · rw [hc]; decide
  · refine ⟨?_, ?_, ?_, ?_⟩ <;> (rw [beq_eq_false_iff_ne]; omega)
  · rw [u8_eq hc] at h; exact absurd h (by decide)
  · rw [u8_eq hc] at h; exact absurd h (by decide)
  · rw [h'] at h; cases h
set_option maxRecDepth 100000 in
set_option maxHeartbeats 3200000 in
theorem s_l22All : ∀ (f : Fm), WfF f = true → (txt f).length ≤ 80 → ∀ (L : List Bs) (v : Value) (w : World) (lo : Nat), OwnS w lo v L → lo ≤ w.heap.size → L.length + (subs f).length ≤ 1000 →
    Calls Try.prog 54 #[v, .string (strF f)] w (fun e w' => ∃ u, e = .returned u ∧ OwnS w' lo u (allL f L) ∧ Ext w w')
  | .leaf c, hw, hl, L, v, w, lo, h, hlo, hn => by
    have HP := hd (s_l22Parts (.leaf c) hw (by omega))
    have HPUT : Hid (Calls Try.prog 89 #[v, .string (strF (.leaf c))] w (fun e w' => ∃ u, e = .returned u ∧ OwnS w' lo u (putL L (txt (.leaf c))) ∧ Ext w w')) := hd (s_l22Put L v (txt (.leaf c)) w lo h hlo (by omega))
    have HA : Hid (allL (.leaf c) L = putL L (txt (.leaf c))) := hd rfl
    have hw' : isLf c = true := hw
    obtain ⟨g1, g2, g3, g4⟩ := lf_tests hw'
    have ho : (opF (.leaf c)).toNat = c.toNat := rfl
    clear h hw hw' hn hl
    generalize strF (.leaf c) = s at *
    go_enter Try.func54, Try.ntmps54
    go_wp2_with fail
    refine HPUT.out.mono ?_
    rintro e w1 ⟨u, rfl, hu, hx⟩
    have HU := hd hu
    have HX := hd hx
    clear hu hx
    go_wp2_with fail
    refine (HP.out _).mono ?_
    rintro e w2 ⟨rfl, n, rfl⟩
    go_wp2
    go_ret
    exact ⟨_, rfl, by rw [HA.out]; exact own_ext HU.out (ext_drewN _ _), HX.out.trans (ext_drewN _ _)⟩
  | .neg a, hw, hl, L, v, w, lo, h, hlo, hn => by
    have HP := hd (s_l22Parts (.neg a) hw (by omega))
    have HPUT : Hid (Calls Try.prog 89 #[v, .string (strF (.neg a))] w (fun e w' => ∃ u, e = .returned u ∧ OwnS w' lo u (putL L (txt (.neg a))) ∧ Ext w w')) := hd (s_l22Put L v (txt (.neg a)) w lo h hlo (by omega))
    have HA : Hid (allL (.neg a) L = allL a (putL L (txt (.neg a)))) := hd rfl
    have hlen := putL_len (txt (.neg a)) L
    have HREC := hd (s_l22All a hw (by have := txt_kid hl; omega) (putL L (txt (.neg a))))
    have hn2 : L.length + (1 + (subs a).length) ≤ 1000 := by simp [subs] at hn; omega
    have ho : (opF (.neg a)).toNat = 126 := rfl
    have hk : kidA (.neg a) = strF a := rfl
    clear h hw hn hl
    generalize strF (.neg a) = s at *
    generalize putL L (txt (.neg a)) = L2 at *
    go_enter Try.func54, Try.ntmps54
    go_wp2_with fail
    refine HPUT.out.mono ?_
    rintro e w1 ⟨u, rfl, hu, hx⟩
    have HU := hd hu
    have HX := hd hx
    have hsz := hx.size
    clear hu hx
    go_wp2_with fail
    refine (HP.out _).mono ?_
    rintro e w2 ⟨rfl, n, rfl⟩
    have HU2 := hd (own_ext HU.out (ext_drewN _ n))
    have hsz2 := (ext_drewN w1 n).size
    go_wp2_with fail
    refine (HREC.out u _ lo HU2.out (by omega) (by omega)).mono ?_
    rintro e w3 ⟨u2, rfl, hu2, hx2⟩
    have HU3 := hd hu2
    have HX3 := hd ((HX.out.trans (ext_drewN _ n)).trans hx2)
    clear hu2 hx2
    go_wp2
    go_ret
    exact ⟨_, rfl, by rw [HA.out]; exact HU3.out, HX3.out⟩
  | .bin o a b, hw, hl, L, v, w, lo, h, hlo, hn => by
    obtain ⟨hop, hx, hy⟩ := wf_bin hw
    have HP := hd (s_l22Parts (.bin o a b) hw (by omega))
    have HPUT : Hid (Calls Try.prog 89 #[v, .string (strF (.bin o a b))] w (fun e w' => ∃ u, e = .returned u ∧ OwnS w' lo u (putL L (txt (.bin o a b))) ∧ Ext w w')) := hd (s_l22Put L v (txt (.bin o a b)) w lo h hlo (by omega))
    have HA : Hid (allL (.bin o a b) L = allL b (allL a (putL L (txt (.bin o a b))))) := hd rfl
    have hlen := putL_len (txt (.bin o a b)) L
    have HREC := hd (s_l22All a hx (txt_kids hl).1 (putL L (txt (.bin o a b))))
    have HRECB := hd (s_l22All b hy (txt_kids hl).2 (allL a (putL L (txt (.bin o a b)))))
    have hlen2 := allL_len a (putL L (txt (.bin o a b)))
    have hn2 : L.length + (1 + ((subs a).length + (subs b).length)) ≤ 1000 := by simp [subs] at hn; omega
    have hk : kidA (.bin o a b) = strF a := rfl
    have hk2 : kidB (.bin o a b) = strF b := rfl
    have ho : (opF (.bin o a b)).toNat = o.toNat := rfl
    clear h hw hn hl hx hy
    generalize strF (.bin o a b) = s at *
    generalize putL L (txt (.bin o a b)) = L2 at *
    generalize allL a L2 = L3 at *
    rcases op_cases o with ⟨_, h | h | h⟩ | ⟨h', _⟩
    case inr => rw [h'] at hop; cases hop
    all_goals
      rw [h] at ho
      clear h hop
      go_enter Try.func54, Try.ntmps54
      go_wp2_with fail
      refine HPUT.out.mono ?_
      rintro e w1 ⟨u, rfl, hu, hx⟩
      have HU := hd hu
      have HX := hd hx
      have hsz := hx.size
      clear hu hx
      go_wp2_with fail
      refine (HP.out _).mono ?_
      rintro e w2 ⟨rfl, n, rfl⟩
      have HU2 := hd (own_ext HU.out (ext_drewN _ n))
      have hsz2 := (ext_drewN w1 n).size
      go_wp2_with fail
      refine (HREC.out u _ lo HU2.out (by omega) (by omega)).mono ?_
      rintro e w3 ⟨u2, rfl, hu2, hx2⟩
      have HU3 := hd hu2
      have HX3 := hd ((HX.out.trans (ext_drewN _ n)).trans hx2)
      have hsz3 := hx2.size
      clear hu2 hx2
      go_wp2_with fail
      refine (HRECB.out u2 _ lo HU3.out (by omega) (by omega)).mono ?_
      rintro e w4 ⟨u4, rfl, hu4, hx4⟩
      have HU4 := hd hu4
      have HX4 := hd (HX3.out.trans hx4)
      clear hu4 hx4
      go_wp2
      go_ret
      exact ⟨_, rfl, by rw [HA.out]; exact HU4.out, HX4.out⟩
end Go.Proofs.Ytbdcomkbpapcaaa
