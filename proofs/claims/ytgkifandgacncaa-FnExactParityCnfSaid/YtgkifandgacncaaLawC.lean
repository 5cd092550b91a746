/-
  Charged graphs: the laws' helpers under uniform names. Conditions: sizes up to 2^20.
-/
import Derived.Test.YtgkifandgacncaaLaw
import Derived.Test.YtgkifandgacncaaChgH
namespace Go.Proofs.Ytgkifandgacncaa
open Go.RowKit
def I64_Charged (g : Chg) : Prop := I64 g.n ∧ (∀ e ∈ g.es, I64 e.1 ∧ I64 e.2) ∧ ∀ x ∈ g.cs, I64 x
abbrev Rd_Charged := RdC
def Own_Charged := OwnC
def Bd_Charged (g : Chg) : Prop := g.es.length ≤ 1048576 ∧ g.cs.length ≤ 1048576
def len_Charged (g : Chg) : Nat := g.es.length * 2 + g.cs.length
def sz_Charged := szC
def Mk_Charged := RdCm
section
variable {w w' : World} {lo hi : Nat} {v : Value} {g : Chg} {k0 : Int}
theorem Own_Charged.ext (h : Own_Charged w lo hi v g) (he : Ext w w') : Own_Charged w' lo hi v g := OwnC.ext h he
theorem Own_Charged.rd (h : Own_Charged w lo hi v g) : RdC w v g := OwnC.rd h
theorem Own_Charged.touch {lo' hi' : Nat} (h : Own_Charged w lo hi v g) (ht : Touch lo' hi' w w') (hd : hi ≤ lo' ∨ hi' ≤ lo) : Own_Charged w' lo hi v g := OwnC.touch h ht hd
theorem Mk_Charged.ext (h : Mk_Charged w v g k0) (he : Ext w w') : Mk_Charged w' v g k0 := RdCm.ext h he
theorem sz_Charged_bd (g : Chg) (left : Int) (h : left ≤ 1048576) : -1 ≤ sz_Charged g left ∧ sz_Charged g left ≤ 1048576 := szC_bd _ _ h
theorem sz_Charged_ok {g : Chg} {left : Int} (h : ¬ sz_Charged g left < 0) (hl : left ≤ 1048576) : Bd_Charged g := by
  have := szC_ok h
  exact ⟨by omega, by omega⟩
theorem len_Charged_bd {g : Chg} (h : Bd_Charged g) : len_Charged g ≤ 100000000 := by unfold len_Charged; have := h.1; have := h.2; omega
end
theorem u_sz_Charged (g : Chg) (v : Value) (left : Int) (w : World) (h : RdC w v g) (h2 : 0 ≤ left) (h3 : left ≤ 1048576) : Calls Try.prog 6 #[v, .int .i64 left] w (RetX w (.int .i64 (sz_Charged g left))) := l_szCharged g v left w h h2 h3
theorem u_to_Charged (g : Chg) (v : Value) (w : World) (h : RdC w v g) (b : Bd_Charged g) : Calls Try.prog 8 #[v] w (fun e w' => ∃ u, e = .returned u ∧ Own_Charged w' w.heap.size w'.heap.size u g ∧ Ext w w') := l_toCharged g v w h (by have := b.1; omega) (by have := b.2; omega)
theorem u_eq_Charged (g : Chg) (v v' : Value) (w : World) (h : RdC w v g) (h' : RdC w v' g) (b : Bd_Charged g) : Calls Try.prog 11 #[v, v'] w (RetX w (.bool true)) := l_eqCharged g v v' w h h' (by have := b.1; omega) (by have := b.2; omega)
theorem u_mark_Charged (g : Chg) (v : Value) (k0 : Int) (w : World) (lo hi : Nat) (h : Own_Charged w lo hi v g) (hh : hi ≤ w.heap.size) (b : Bd_Charged g) (hk0 : 0 ≤ k0) (hk1 : k0 ≤ 1000000000) :
    Calls Try.prog 12 #[v, .int .i64 k0] w fun e w' => e = .returned (.int .i64 (k0 + len_Charged g)) ∧ Mk_Charged w' v g k0 ∧ Touch lo hi w w' :=
  (l_markCharged g v k0 w lo hi h hh b.1 b.2 hk0 hk1).mono fun _ _ ⟨h1, h2, h3⟩ => ⟨by rw [h1]; unfold len_Charged; simp [Int.add_assoc], h2, h3⟩
end Go.Proofs.Ytgkifandgacncaa
