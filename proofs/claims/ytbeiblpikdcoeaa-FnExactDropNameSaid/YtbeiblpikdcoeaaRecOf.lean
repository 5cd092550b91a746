/-
  RecordOf, both sides. No condition of its own.
-/
import Derived.Test.YtbeiblpikdcoeaaBook3
import Derived.Test.YtbeiblpikdcoeaaHo
import Derived.Test.YtbeiblpikdcoeaaSmall
namespace Go.Proofs.Ytbeiblpikdcoeaa
open Go.RowKit
def aggR (r : Rec) : Value := .agg #[.string r.name, .int .i64 r.sys, .int .i64 r.size, .int .i64 r.extra]
def isRec (name : ByteArray) (k : Int) (r : Rec) : Bool := (r.name.toList == name.toList) && decide (r.sys = k)
/-- The function value of g with captured values cs answers p on records, in w and whatever grows from it. -/
def AnsR (g : FuncId) (cs : Array Value) (p : Rec → Bool) (xs : List Rec) (w : World) : Prop := ∀ x ∈ xs, ∀ w', Ext w w' → Calls Try.prog g (#[aggR x] ++ cs) w' (RetX w' (.bool (p x)))
def findR (p : Rec → Bool) : List Rec → Int → Int
  | [], _ => -1
  | y :: r, k => if p y then k else findR p r (k + 1)
set_option maxHeartbeats 800000 in
theorem slices_IndexFuncR (xs : List Rec) (v : Value) (g : FuncId) (cs : Array Value) (p : Rec → Bool) (w : World) (h : RdRec w v xs) (hl : xs.length ≤ 1048576) (hg : Enters g) (hp : Hid (AnsR g cs p xs w)) :
    Calls Try.prog 128 #[v, .func (.func g) #[] cs] w (RetX w (.int .i64 (findR p xs 0))) := by
  obtain ⟨A, c, rfl, h1, h2, ha⟩ := h.form
  clear h
  go_enter Try.func128, Try.ntmps128
  go_wp2
  go_loopw [8] (fun i wr => ∃ k : Nat, k ≤ xs.length ∧ i = .int .i64 k ∧ Hid (findR p xs 0 = findR p (xs.drop k) k) ∧ Ext w wr) (fun i _ => xs.length - (intOf i).toNat)
  case atStart => exact ⟨0, by omega, rfl, hd rfl, Ext.refl _⟩
  case round =>
    obtain ⟨k, hk, rfl, HR, hx⟩ := hrel
    have HX := hd hx
    clear hx
    by_cases hlt : k < xs.length
    · obtain ⟨a, rfl, d0, d1, d2, d3⟩ := RdRec.at_ ha hlt
      have c0 := HX.out.cell d0
      have c1 := HX.out.cell d1
      have c2 := HX.out.cell d2
      have c3 := HX.out.cell d3
      clear d0 d1 d2 d3
      rw [drop_cons hlt] at HR
      have hm := hd (List.getElem_mem hlt)
      generalize xs[k] = y at *
      unfold Enters at hg
      obtain ⟨b, hb⟩ : ∃ b, p y = b := ⟨_, rfl⟩
      have HB := hd hb
      clear hb
      go_wp2_with fail
      refine (hp.out y hm.out _ HX.out).mono ?_
      rintro e w1 ⟨rfl, hx1⟩
      have HX1 := hd (HX.out.trans hx1)
      clear hx1
      rw [HB.out]
      cases b
      · go_wp2
        go_roundw
        case rel => exact ⟨k + 1, by omega, by go_num, hd (by rw [HR.out, findR, HB.out]; rfl), HX1.out⟩
        case measure => simp [intOf]; omega
      · go_wp2
        go_ret
        exact RetX.mk (by rw [HR.out, findR, HB.out]; rfl) HX1.out
    · go_wp2
      go_ret
      exact RetX.mk (by rw [HR.out, List.drop_eq_nil_of_le (by omega)]; rfl) HX.out
end Go.Proofs.Ytbeiblpikdcoeaa
