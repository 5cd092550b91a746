/-
  Marks on slices of gates. Conditions: sizes up to 2^20, marks up to 10^9.
-/
import Derived.Test.YtjeeffmpfdhppaaGate
namespace Go.Proofs.Ytjeeffmpfdhppaa
open Go.RowKit
def mkG : Int → Nat → List Gat
  | _, 0 => []
  | k0, n + 1 => ⟨k0, k0 + 1, k0 + 2⟩ :: mkG (k0 + 3) n
@[simp] theorem length_mkG : ∀ (n : Nat) (k0 : Int), (mkG k0 n).length = n
  | 0, _ => rfl
  | n + 1, k0 => by simp [mkG, length_mkG n]
theorem mkG_get : ∀ (n : Nat) (k0 : Int) (j : Nat) (h : j < (mkG k0 n).length), (mkG k0 n)[j] = ⟨k0 + j * 3, k0 + j * 3 + 1, k0 + j * 3 + 2⟩
  | 0, _, j, h => by simp at h
  | n + 1, k0, 0, _ => by simp [mkG]
  | n + 1, k0, j + 1, h => by
    have := mkG_get n (k0 + 3) j (by simpa using h)
    simp only [mkG, List.getElem_cons_succ, this]
    rw [show k0 + 3 + (j : Int) * 3 = k0 + ((j + 1 : Nat) : Int) * 3 from by omega]
def Mk_GateS (w : World) (v : Value) (rs : List Gat) (k0 : Int) : Prop := Rd_GateS w v (mkG k0 rs.length)
def len_GateS (rs : List Gat) : Int := rs.length * 3
theorem Mk_GateS.ext {w w' : World} {v : Value} {rs : List Gat} {k0 : Int} (h : Mk_GateS w v rs k0) (he : Ext w w') : Mk_GateS w' v rs k0 := Rd_GateS.ext h he
theorem len_GateS_bd {rs : List Gat} (b : Bd_GateS rs) : 0 ≤ len_GateS rs ∧ len_GateS rs ≤ 4194304 := by
  unfold Bd_GateS at b
  unfold len_GateS
  omega
set_option maxRecDepth 100000 in
set_option maxHeartbeats 3200000 in
theorem l_markGateS (rs : List Gat) (v : Value) (k0 : Int) (w : World) (lo : Nat) (h : Own w lo 82 3 v rs.length (gatCells rs)) (hl : rs.length ≤ 1048576) (hk0 : 0 ≤ k0) (hk1 : k0 ≤ 1000000000) (hi : Nat) (hhi : ∀ b, v.ownBlock = some b → b < hi) :
    Calls Try.prog 22 #[v, .int .i64 k0] w fun e w' => e = .returned (.int .i64 (k0 + rs.length * 3)) ∧ Own w' lo 82 3 v rs.length (gatCells (mkG k0 rs.length)) ∧ Touch lo hi w w' := by
  rcases own_form h with ⟨rfl, hn, _⟩ | ⟨g, cap, rfl, hb, hg, hnc, hcm⟩
  · have hx : rs = [] := List.eq_nil_of_length_eq_zero hn
    subst hx
    clear h hn
    go_enter Try.func22, Try.ntmps22
    go_wp2
    refine wp_loop_rounds 1 ?_; rw [rounds_succ]; go_wp2
    go_ret
    exact ⟨by simp, own_nil _ _ _ _, Touch.refl _ _ _⟩
  · have hgh := hhi g rfl
    clear hhi
    have HF : Hid ((gatCells rs).length = rs.length * 3) := hd (length_gatCells rs)
    generalize gatCells rs = Z at *
    generalize rs.length = n at *
    have HMF : Hid ((gatCells (mkG k0 n)).length = n * 3) := hd (by simp)
    have HMG : Hid (∀ k, k < n → (gatCells (mkG k0 n))[k * 3]? = some (.int .i64 (k0 + k * 3)) ∧ (gatCells (mkG k0 n))[k * 3 + 1]? = some (.int .i64 (k0 + k * 3 + 1)) ∧ (gatCells (mkG k0 n))[k * 3 + 2]? = some (.int .i64 (k0 + k * 3 + 1 + 1))) := hd fun k hk => by
      have h1 := gatCells_get (mkG k0 n) (k := k) (by simpa using hk)
      rw [mkG_get] at h1
      dsimp only at h1
      rw [show k0 + (k : Int) * 3 + 2 = k0 + k * 3 + 1 + 1 from by omega] at h1
      exact h1
    generalize gatCells (mkG k0 n) = X at *
    have HO0 := hd h
    clear h
    have HGB := hd hb
    have HGH := hd hgh
    clear hb hgh
    go_enter Try.func22, Try.ntmps22
    go_wp2
    go_loopw [5, 1] (fun i m wr => ∃ k : Nat, k ≤ n ∧ i = .int .i64 k ∧ m = .int .i64 (k0 + k * 3) ∧ Own wr lo 82 3 (.slice (some ⟨g, 0, none⟩) n cap) n (X.take (k * 3) ++ Z.drop (k * 3)) ∧ Touch lo hi w wr) (fun i _ _ => n - (intOf i).toNat)
    case atStart => exact ⟨0, by omega, rfl, by simp, by simpa using HO0.out, Touch.refl _ _ _⟩
    case round =>
      clear HO0
      obtain ⟨k, hk, rfl, rfl, ho, hx⟩ := hrel
      by_cases hlt : k < n
      · have HO := hd ho
        have HX := hd hx
        clear ho hx
        have HG := hd (HMG.out k hlt)
        obtain ⟨⟨u0, s0⟩, f0, st0⟩ := own_storeN HO.out (j := k * 3) (by omega)
        obtain ⟨⟨u1, s1⟩, f1, -⟩ := own_storeN HO.out (j := k * 3 + 1) (by omega)
        obtain ⟨⟨u2, s2⟩, f2, -⟩ := own_storeN HO.out (j := k * 3 + 2) (by omega)
        have HST : Hid (∀ u, Own (((wr.setCell ⟨g, k * 3, none⟩ (.int .i64 (k0 + k * 3))).setCell ⟨g, k * 3 + 1, none⟩ (.int .i64 (k0 + k * 3 + 1))).setCell ⟨g, k * 3 + 2, none⟩ u) _ _ 3 _ _ _) := hd fun u => (World.ownsRow.stored (World.ownsRow.stored (st0.out (.int .i64 (k0 + k * 3))) (k * 3 + 1) (.int .i64 (k0 + k * 3 + 1))).1 (k * 3 + 2) u).1
        clear st0
        go_wp2
        go_roundw
        case rel => exact ⟨k + 1, by omega, by go_num, by go_num, by rw [← splice_cells3 HMF.out HF.out hlt HG.out.1 HG.out.2.1 HG.out.2.2]; exact HST.out _, ((HX.out.setCell HGB.out HGH.out _).setCell HGB.out HGH.out _).setCell HGB.out HGH.out _⟩
        case measure => simp [intOf]; omega
      · go_wp2
        go_ret
        obtain rfl : k = n := by omega
        rw [List.take_of_length_le (by rw [HMF.out]; exact Nat.le_refl _), List.drop_eq_nil_of_le (by rw [HF.out]; exact Nat.le_refl _), List.append_nil] at ho
        exact ⟨rfl, ho, hx⟩
theorem u_mark_GateS (rs : List Gat) (v : Value) (k0 : Int) (w : World) (lo hi : Nat) (h : Own_GateS w lo hi v rs) (_hh : hi ≤ w.heap.size) (b : Bd_GateS rs) (hk0 : 0 ≤ k0) (hk1 : k0 ≤ 1000000000) :
    Calls Try.prog 22 #[v, .int .i64 k0] w (fun e w' => e = .returned (.int .i64 (k0 + len_GateS rs)) ∧ Mk_GateS w' v rs k0 ∧ Touch lo hi w w') := by
  refine (l_markGateS rs v k0 w lo h.1 b hk0 hk1 hi h.2).mono ?_
  rintro e w' ⟨rfl, ho, ht⟩
  refine ⟨rfl, ?_, ht⟩
  have := own_rd ho
  unfold Mk_GateS Rd_GateS
  rw [length_mkG]
  exact this
end Go.Proofs.Ytjeeffmpfdhppaa
