/-
  Reversible pebbling: what the check of a graph of six nodes gives for nine. No condition.
-/
import Derived.Test.YtapgpjhogdmjbaaRevF
namespace Go.Proofs.Ytapgpjhogdmjbaa
namespace Peb
namespace Tt
section
variable {m : Nat → Nat} {p q qE q1 q2 q3 m5 : Nat} {H : List Nat}
theorem cof_lt (n msk : Nat) (l : List Nat) : cof n msk l < 2 ^ n := Nat.mod_lt _ (Nat.pow_pos (by decide))
theorem un0_ok (hW : Wf m) (hG : Gr m 6 H) (hE : Cq 6 p qE) (h1 : Cq 6 (p - 1) q1) (h2 : Cq 6 (p - 1 - 1) q2) (h3 : Cq 6 (p - 1 - 1 - 1) q3) (h : un0 (gl 6 H) (gf 6 H) qE q1 q2 q3 = true) : EB m 9 p 149 := by
  unfold un0 at h
  exact six_ok hW hG hE h1 h2 h3 (mk1 := qb 6 q1) (mk2 := qb 6 q2) (mk3 := qb 6 q3) (c2 := 0) (c3 := 0) (c := 0) (fun _ _ hM hZ _ => qb_bit hM h1.1 hZ) (fun _ _ hM hZ _ => qb_bit hM h2.1 hZ) (fun _ _ hM hZ _ => qb_bit hM h3.1 hZ) (by decide) (by decide) (by decide) h
theorem un1_ok (hW : Wf m) (hG : Gr m 6 H) (hE : Cq 6 p qE) (h1 : Cq 6 (p - 1) q1) (h2 : Cq 6 (p - 1 - 1) q2) (h3 : Cq 6 (p - 1 - 1 - 1) q3) (h : un1 (gl 6 H) (gf 6 H) qE q1 q2 q3 = true) : EB m 9 p 149 := by
  unfold un1 at h
  exact six_ok hW hG hE h1 h2 h3 (mk1 := qb 6 q1) (mk2 := qb 6 q2) (mk3 := qb 6 q3) (fun _ _ hM hZ _ => qb_bit hM h1.1 hZ) (fun _ _ hM hZ _ => qb_bit hM h2.1 hZ) (fun _ _ hM hZ _ => qb_bit hM h3.1 hZ) (cof_lt _ _ _) (cof_lt _ _ _) (cof_lt _ _ _) h
theorem rf_ok (hW : Wf m) (hG : Gr m 6 H) (hE : Cq 6 p qE) (h1 : Cq 6 (p - 1) q1) (h2 : Cq 6 (p - 1 - 1) q2) (h3 : Cq 6 (p - 1 - 1 - 1) q3) {A : Nat} (hA : subB A (m 6)) (h : rf (gl 6 H) (gf 6 H) qE q1 q2 q3 A = true) : EB m 9 p 149 := by
  unfold rf at h
  exact six_ok hW hG hE h1 h2 h3 (mk1 := mk 6 q1 A 6) (mk2 := mk 6 q2 A 6) (mk3 := mk 6 q3 A 6) (fun _ _ hM hZ hs => mk_bit hM h1.1 hZ (fun y hy => hs y (hA y hy)) 6 (Nat.le_refl _)) (fun _ _ hM hZ hs => mk_bit hM h2.1 hZ (fun y hy => hs y (hA y hy)) 6 (Nat.le_refl _)) (fun _ _ hM hZ hs => mk_bit hM h3.1 hZ (fun y hy => hs y (hA y hy)) 6 (Nat.le_refl _)) (cof_lt _ _ _) (cof_lt _ _ _) (cof_lt _ _ _) h
theorem sv_ok (hW : Wf m) (hG : Gr m 7 H) (hp : p < 8) (e1 : q1 = p - 1) (e2 : q2 = p - 1 - 1) (h : sv H p q1 q2 = true) : EB m 9 p 149 := by
  subst e2; subst e1
  unfold sv sv1 at h
  exact seven_ok hW hG hp (cof_lt _ _ _) h
theorem pre_sub {b I x : Nat} (hI : I % 2 ^ b = 0) (h1 : I ≤ x) (h2 : x < I + 2 ^ b) : subB I x := fun y hy => by
  have e : I = 2 ^ b * (I / 2 ^ b) + 0 := by have := Nat.div_add_mod I (2 ^ b); omega
  have hp := Nat.pow_pos (n := b) (show 0 < 2 by decide)
  have e2 : x = 2 ^ b * (I / 2 ^ b) + (x - I) := by omega
  have hl : x - I < 2 ^ b := by omega
  generalize I / 2 ^ b = u at *
  generalize x - I = r at *
  subst e2
  rw [e, Nat.testBit_two_pow_mul_add _ hp] at hy
  rw [Nat.testBit_two_pow_mul_add _ hl]
  by_cases hyb : y < b
  · rw [if_pos hyb, Nat.zero_testBit] at hy; cases hy
  · rw [if_neg hyb] at hy ⊢; exact hy
theorem gr_snoc (hG : Gr m 6 H) {A : Nat} (hA : m 6 = A) : Gr m 7 (H ++ [A]) := by
  refine ⟨by rw [List.length_append, hG.1]; rfl, fun x h => ?_⟩
  rw [List.length_append, hG.1] at h
  by_cases hx : x < 6
  · rw [List.getElem_append_left (by rw [hG.1]; exact hx)]; exact hG.2 x _
  · have : x = 6 := by have h' : x < 6 + 1 := h; omega
    subst this
    rw [List.getElem_append_right (by rw [hG.1]; exact Nat.le_refl _)]
    simp [hG.1, hA]
theorem tree_ok (hW : Wf m) (hG : Gr m 6 H) (hE : Cq 6 p qE) (h1 : Cq 6 (p - 1) q1) (h2 : Cq 6 (p - 1 - 1) q2) (h3 : Cq 6 (p - 1 - 1 - 1) q3) (hp : p < 8) (e1 : q1 = p - 1) (e2 : q2 = p - 1 - 1) (h5 : m5 ≤ m 6) :
    ∀ b I fr, I % 2 ^ b = 0 → I ≤ m 6 → m 6 < I + 2 ^ b → tree H m5 p qE q1 q2 q3 b I fr = true → EB m 9 p 149
  | 0, I, fr, hI, hl, hu, h => by
    rw [tree, Bool.or_eq_true, Bool.or_eq_true, Bool.and_eq_true] at h
    have hA : m 6 = I := by rw [Nat.pow_zero] at hu; omega
    rcases h with ⟨_, h⟩ | h | h
    · exact rf_ok hW hG hE h1 h2 h3 (pre_sub hI hl hu) h
    · have := Nat.le_of_ble_eq_true h
      omega
    · exact sv_ok hW (gr_snoc hG hA) hp e1 e2 h
  | b + 1, I, fr, hI, hl, hu, h => by
    rw [tree, Bool.or_eq_true, Bool.or_eq_true, Bool.and_eq_true, Bool.and_eq_true] at h
    have hb := Nat.pow_pos (n := b) (show 0 < 2 by decide)
    have e : 2 ^ (b + 1) = 2 * 2 ^ b := Nat.pow_succ'
    have hm : I % 2 ^ b = 0 := by
      have := Nat.mod_mod_of_dvd I (show 2 ^ b ∣ 2 ^ (b + 1) from ⟨2, Nat.pow_succ 2 b⟩)
      rw [hI, Nat.zero_mod] at this
      exact this.symm
    rcases h with ⟨_, h⟩ | h | ⟨ha, hb'⟩
    · exact rf_ok hW hG hE h1 h2 h3 (pre_sub hI hl hu) h
    · have := Nat.le_of_ble_eq_true h
      omega
    · by_cases hc : I + 2 ^ b ≤ m 6
      · exact tree_ok hW hG hE h1 h2 h3 hp e1 e2 h5 b _ _ (by rw [Nat.add_mod_right]; exact hm) hc (by omega) ha
      · exact tree_ok hW hG hE h1 h2 h3 hp e1 e2 h5 b _ _ hm hl (by omega) hb'
theorem one_ok (hW : Wf m) (hG : Gr m 6 H) (hE : Cq 6 p qE) (h1 : Cq 6 (p - 1) q1) (h2 : Cq 6 (p - 1 - 1) q2) (h3 : Cq 6 (p - 1 - 1 - 1) q3) (hp : p < 8) (e1 : q1 = p - 1) (e2 : q2 = p - 1 - 1) (h5 : m5 ≤ m 6) (h : one H m5 p qE q1 q2 q3 = true) : EB m 9 p 149 := by
  unfold one at h
  rw [Bool.or_eq_true, Bool.or_eq_true] at h
  rcases h with h | h | h
  · exact un0_ok hW hG hE h1 h2 h3 h
  · exact un1_ok hW hG hE h1 h2 h3 h
  · exact tree_ok hW hG hE h1 h2 h3 hp e1 e2 h5 6 0 _ (by decide) (Nat.zero_le _) (by have := hW 6; omega) h
theorem two_ok (hW : Wf m) (hG : Gr m 6 H) (hE : Cq 6 p qE) (h1 : Cq 6 (p - 1) q1) (h2 : Cq 6 (p - 1 - 1) q2) (h3 : Cq 6 (p - 1 - 1 - 1) q3) (h : two H qE q1 q2 q3 = true) : EB m 9 p 149 := by
  unfold two at h
  rw [Bool.or_eq_true] at h
  rcases h with h | h
  · exact un0_ok hW hG hE h1 h2 h3 h
  · exact un1_ok hW hG hE h1 h2 h3 h
theorem cnt_zero : ∀ P : Fin 512, cnt P.1 ≤ 0 → P.1 = 0 := by decide +kernel
theorem EB_zero : EB m 9 0 149 := fun Z hz => by
  have h := hz.right
  have := cnt_zero ⟨Z, h.1⟩ h.2
  simp only at this
  subst this
  exact ⟨0, by decide, .nil h⟩
instance {n i : Nat} : Decidable (Cq n q i) := by unfold Cq; infer_instance
theorem chk_ok (hW : Wf m) (hG : Gr m 6 H) (h5 : m5 ≤ m 6) (h : chk H m5 = true) (hp : p ≤ 9) : EB m 9 p 149 := by
  unfold chk at h
  simp only [Bool.and_eq_true] at h
  obtain ⟨a5, a6, a7, a4, a8, a9, a3, a2, a1⟩ := h
  match p, hp with
  | 0, _ => exact EB_zero
  | 1, _ => exact two_ok hW hG (by decide) (by decide) (by decide) (by decide) a1
  | 2, _ => exact two_ok hW hG (by decide) (by decide) (by decide) (by decide) a2
  | 3, _ => exact two_ok hW hG (by decide) (by decide) (by decide) (by decide) a3
  | 4, _ => exact one_ok hW hG (by decide) (by decide) (by decide) (by decide) (by decide) rfl rfl h5 a4
  | 5, _ => exact one_ok hW hG (by decide) (by decide) (by decide) (by decide) (by decide) rfl rfl h5 a5
  | 6, _ => exact one_ok hW hG (by decide) (by decide) (by decide) (by decide) (by decide) rfl rfl h5 a6
  | 7, _ => exact one_ok hW hG (by decide) (by decide) (by decide) (by decide) (by decide) rfl rfl h5 a7
  | 8, _ => exact two_ok hW hG (by decide) (by decide) (by decide) (by decide) a8
  | 9, _ => exact two_ok hW hG (by decide) (by decide) (by decide) (by decide) a9
end
/-! ### All ascending graphs -/
def al (f : Nat → Bool) : List Nat → Bool
  | [] => true
  | x :: r => f x && al f r
theorem al_ok {f : Nat → Bool} : ∀ {l : List Nat}, al f l = true → ∀ x, x ∈ l → f x = true
  | [], _, x, h => absurd h List.not_mem_nil
  | y :: r, h, x, hx => by
    rw [al, Bool.and_eq_true] at h
    rcases List.mem_cons.1 hx with rfl | hx
    · exact h.1
    · exact al_ok h.2 x hx
def gs (a b c : Nat) (l : List Nat) : Bool := al (fun d => Nat.blt d c || al (fun e => Nat.blt e d || chk [0, a, b, c, d, e] e) [0, 1, 2, 3, 4, 5, 6, 7, 8, 9, 10, 11, 12, 13, 14, 15, 16, 17, 18, 19, 20, 21, 22, 23, 24, 25, 26, 27, 28, 29, 30, 31]) l
theorem mem32 : ∀ e : Fin 32, e.1 ∈ [0, 1, 2, 3, 4, 5, 6, 7, 8, 9, 10, 11, 12, 13, 14, 15, 16, 17, 18, 19, 20, 21, 22, 23, 24, 25, 26, 27, 28, 29, 30, 31] := by decide +kernel
theorem gs_ok {a b c : Nat} {l : List Nat} (h : gs a b c l = true) {d e : Nat} (hd : d ∈ l) (hc : c ≤ d) (he : d ≤ e) (h32 : e < 32) : chk [0, a, b, c, d, e] e = true := by
  have h1 := al_ok h d hd
  rw [Bool.or_eq_true] at h1
  rcases h1 with h1 | h1
  · have := Nat.le_of_ble_eq_true h1
    omega
  · have h2 := al_ok h1 e (mem32 ⟨e, h32⟩)
    rw [Bool.or_eq_true] at h2
    rcases h2 with h2 | h2
    · have := Nat.le_of_ble_eq_true h2
      omega
    · exact h2
end Tt
end Peb
end Go.Proofs.Ytapgpjhogdmjbaa
