import Derived.Test.YtbdcomkbpapcaaaGreatMg2
import Derived.Test.YtbdcomkbpapcaaaGreatMg3
import Derived.IntWalk
import Derived.Test.YtbdcomkbpapcaaaGreatBase
/-
  spec.l2Has. Condition: list lengths up to 2^30.
-/
/-
  The value of a clause under an assignment: the reference's side. Conditions: literals within 12.
-/
/-
  Small words on worlds that extend one another. No condition.
-/

namespace Go.Proofs.YtbdcomkbpapcaaaGreat
open Go.RowKit
theorem s_l2Has (xs : List Int) (v : Value) (x : Int) (w : World) (h : RdI w v xs) (hl : xs.length ≤ 1073741824) : Calls Tryz.prog 47 #[v, .int .i64 x] w (Ret w (.bool (hasI xs x))) := by
  have HA := hd h
  clear h
  go_enter Tryz.func47, Tryz.ntmps47
  go_wp2_with fail
  refine (s_l1Has xs v x _ HA.out hl).mono ?_
  rintro e w1 ⟨rfl, rfl⟩
  go_wp2
  go_ret
  exact Ret.mk rfl
end Go.Proofs.YtbdcomkbpapcaaaGreat
namespace Go.Proofs.YtbdcomkbpapcaaaGreat
open Go.RowKit
def valG (a : List Int) : Int → List Int → Int
  | v, [] => v
  | v, l :: r => if hasI a l then 1 else valG a (if hasI a (-l) then v else 0) r
theorem valG_lt (a : List Int) : ∀ (c : List Int) (v : Int), v < 1 → decide (valG a v c < 1) = !anyI (hasI a) c
  | [], v, h => by simp [valG, anyI, h]
  | l :: r, v, h => by
    unfold valG anyI
    cases hasI a l
    · simp only [Bool.false_eq_true, if_false]
      exact valG_lt a r _ (by split <;> omega)
    · rfl
theorem valG_bd (a : List Int) : ∀ (c : List Int) (v : Int), -1 ≤ v ∧ v ≤ 0 → -1 ≤ valG a v c ∧ valG a v c ≤ 1
  | [], v, h => by unfold valG; omega
  | l :: r, v, h => by
    unfold valG
    split
    · omega
    · exact valG_bd a r _ (by split <;> omega)
set_option maxHeartbeats 1600000 in
theorem s_l3Value (c a : List Int) (v av : Value) (w : World) (h : RdI w v c) (h' : RdI w av a) (hl : c.length ≤ 1073741824) (hl' : a.length ≤ 1073741824) (hlit : Hid (∀ l ∈ c, -12 ≤ l ∧ l ≤ 12)) :
    Calls Tryz.prog 84 #[v, av] w (Ret w (.int .i64 (valG a (-1) c))) := by
  obtain ⟨A, cc, rfl, h1, h2, ha⟩ := h.form
  have HA := hd h'
  clear h h'
  go_enter Tryz.func84, Tryz.ntmps84
  go_wp2
  go_loop [6, 5] (fun i x => ∃ (k : Nat) (z : Int), k ≤ c.length ∧ i = .int .i64 k ∧ x = .int .i64 z ∧ Hid (valG a (-1) c = valG a z (c.drop k))) (fun i _ => c.length - (intOf i).toNat)
  case atStart => exact ⟨0, -1, by omega, rfl, rfl, hd rfl⟩
  case round =>
    obtain ⟨k, z, hk, rfl, rfl, HR⟩ := hrel
    by_cases hlt : k < c.length
    · obtain ⟨e1, rfl, hc⟩ := RdI.at_ ha hlt
      have hdc : c.drop k = c[k] :: c.drop (k + 1) := List.drop_eq_getElem_cons hlt
      rw [hdc] at HR
      have hy := hlit.out _ (List.getElem_mem hlt)
      clear hdc
      generalize c[k] = y at *
      obtain ⟨hy1, hy2⟩ := hy
      obtain ⟨p, hp⟩ : ∃ p, hasI a y = p := ⟨_, rfl⟩
      obtain ⟨q, hq⟩ : ∃ q, hasI a (-y) = q := ⟨_, rfl⟩
      have HP := hd hp
      have HQ := hd hq
      clear hp hq
      cases p
      · cases q
        · go_wp2_with fail
          refine (rt (s_l2Has a av y _ HA.out hl') HP).mono ?_
          rintro e w1 ⟨rfl, rfl⟩
          go_wp2_with fail
          refine (rt (s_l2Has a av (-y) _ HA.out hl') HQ).mono ?_
          rintro e w1 ⟨rfl, rfl⟩
          go_wp2
          go_round
          case rel => exact ⟨k + 1, 0, by omega, by go_num, rfl, hd (by rw [HR.out, valG, HP.out, HQ.out]; rfl)⟩
          case measure => simp [intOf]; omega
        · go_wp2_with fail
          refine (rt (s_l2Has a av y _ HA.out hl') HP).mono ?_
          rintro e w1 ⟨rfl, rfl⟩
          go_wp2_with fail
          refine (rt (s_l2Has a av (-y) _ HA.out hl') HQ).mono ?_
          rintro e w1 ⟨rfl, rfl⟩
          go_wp2
          go_round
          case rel => exact ⟨k + 1, z, by omega, by go_num, rfl, hd (by rw [HR.out, valG, HP.out, HQ.out]; rfl)⟩
          case measure => simp [intOf]; omega
      · go_wp2_with fail
        refine (rt (s_l2Has a av y _ HA.out hl') HP).mono ?_
        rintro e w1 ⟨rfl, rfl⟩
        go_wp2
        go_ret
        exact Ret.mk (by rw [HR.out, valG, HP.out]; rfl)
    · go_wp2
      go_ret
      exact Ret.mk (by rw [HR.out, List.drop_eq_nil_of_le (by omega)]; rfl)
end Go.Proofs.YtbdcomkbpapcaaaGreat
namespace Go.Proofs.YtbdcomkbpapcaaaGreat
open Go.RowKit
theorem grown_ext {w w' : World} (h : Ext w w') (row : Option Nat) : w.grownBy w' row := ⟨h.os, h.tape, h.output, h.size, fun k hk _ => h.block k hk⟩
theorem rd_blk {w : World} {b s m : Nat} {us : List Value} {cs : Array Value} {e : TypeId} (h : w.heap[b]? = some (.cells cs e)) (hc : cs.toList = us) (hl : us.length = m * s) (hm : m ≤ maxLen) : Rd w s (.slice (some ⟨b, 0, none⟩) m m) m us := by
  refine ⟨hl, some ⟨b, 0, none⟩, m, rfl, Nat.le_refl _, hm, fun j x hx => ⟨_, rfl, ?_⟩⟩
  refine World.news_of_block h j x ?_
  rw [hc]; exact hx
end Go.Proofs.YtbdcomkbpapcaaaGreat
