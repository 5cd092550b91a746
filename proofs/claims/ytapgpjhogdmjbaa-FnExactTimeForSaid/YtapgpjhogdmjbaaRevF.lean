/-
  Reversible pebbling: the check of a graph of six nodes, and of seven, and what it says of nine. No condition.
-/
import Derived.Test.YtapgpjhogdmjbaaRevD
namespace Go.Proofs.Ytapgpjhogdmjbaa
namespace Peb
theorem cnt_le1 : ∀ P : Fin 1024, ∀ n : Fin 11, P.1 < 2 ^ n.1 → cnt P.1 ≤ n.1 := by decide +kernel
theorem cnt_le {n P : Nat} (hn : n ≤ 10) (h : P < 2 ^ n) : cnt P ≤ n := cnt_le1 ⟨P, lt_bits hn h⟩ ⟨n, by omega⟩ h
namespace Tt
def mx2 (a b : Nat) : Nat := cond (Nat.ble a b) b a
theorem le_mx (a b : Nat) : a ≤ mx2 a b ∧ b ≤ mx2 a b := by
  unfold mx2
  cases h : Nat.ble a b
  · have : ¬ a ≤ b := fun h2 => by rw [Nat.ble_eq_true_of_le h2] at h; cases h
    rw [cond_false]; omega
  · have := Nat.le_of_ble_eq_true h
    rw [cond_true]; omega
def bnd (E a1 a2 a3 z1 z2 z3 s2 s3 x2 : Nat) : Nat :=
  E + 1 + a1 + 1 + mx2 z1 (mx2 z2 (a1 + 2 + s2)) + 1 + (mx2 z1 (mx2 z2 (a1 + 2 + s2)) + 2 + (mx2 z2 (mx2 z3 (a2 + 2 + s3)) + mx2 z3 (x2 + 2 + s3)))
/-- Sizes above the number of nodes are all alike. -/
def Cq (n q i : Nat) : Prop := i < 8 ∧ (q = i ∨ (n ≤ q ∧ n ≤ i))
section
variable {m : Nat → Nat} {n p q i k P Q A c e : Nat} {H : List Nat}
theorem Pth.cap (hn : n ≤ 10) (hq : n ≤ i) (h : Pth m n q k P Q) : Pth m n i k P Q := by
  induction h with
  | nil h => exact .nil ⟨h.1, Nat.le_trans (cnt_le hn h.1) hq⟩
  | snoc x _ hx hs ho ih => exact .snoc x ih hx hs ⟨ho.1, Nat.le_trans (cnt_le hn ho.1) hq⟩
theorem Cq.path (hn : n ≤ 10) (h : Cq n q i) : Pth m n q k P Q ↔ Pth m n i k P Q := by
  rcases h.2 with rfl | ⟨h1, h2⟩
  · exact Iff.rfl
  · exact ⟨fun h => Pth.cap hn h2 h, fun h => Pth.cap hn h1 h⟩
theorem Cq.conn (hn : n ≤ 10) (h : Cq n q i) : Conn m n q P Q ↔ Conn m n i P Q := ⟨fun ⟨k, g⟩ => ⟨k, (h.path hn).1 g⟩, fun ⟨k, g⟩ => ⟨k, (h.path hn).2 g⟩⟩
theorem Cq.rk (hn : n ≤ 10) (h : Cq n q i) (g : Rk m n i k P Q) : Rk m n q k P Q := by obtain ⟨j, hj, g⟩ := g; exact ⟨j, hj, (h.path hn).2 g⟩
theorem Cq.eb (hn : n ≤ 10) (h : Cq n q i) (g : EB m n i e) : EB m n q e := fun Z hz => h.rk hn (g Z ((h.conn hn).1 hz))
theorem Cq.db (hn : n ≤ 10) (h : Cq n q i) (g : DB m n i A e) : DB m n q A e := fun M Z hs hz => h.rk hn (g M Z hs ((h.conn hn).1 hz))
theorem Cq.xb (hn : n ≤ 10) (h : Cq n q i) (g : XB m n i A c e) : XB m n q A c e := fun M Z hs hc hz => h.rk hn (g M Z hs (fun h2 => hc ((h.conn hn).2 h2)) ((h.conn hn).1 hz))
def gl (n : Nat) (H : List Nat) : List Nat := lay (alt n) (tgs (2 * n + 3) H 0) 60 (dia n n)
def gf (n : Nat) (H : List Nat) : Nat := fin (alt n) (tgs (2 * n + 3) H 0) 60 (dia n n)
/-- From six nodes. -/
theorem six_ok (hW : Wf m) (hG : Gr m 6 H) {qE q1 q2 q3 mk1 mk2 mk3 c2 c3 c : Nat} (hE : Cq 6 p qE) (h1 : Cq 6 (p - 1) q1) (h2 : Cq 6 (p - 1 - 1) q2) (h3 : Cq 6 (p - 1 - 1 - 1) q3)
    (k1 : ∀ M Z, M < 2 ^ 6 → Z < 2 ^ 6 → subB (m 6) M → mk1.testBit (ix 6 M q1 Z) = true) (k2 : ∀ M Z, M < 2 ^ 6 → Z < 2 ^ 6 → subB (m 6) M → mk2.testBit (ix 6 M q2 Z) = true) (k3 : ∀ M Z, M < 2 ^ 6 → Z < 2 ^ 6 → subB (m 6) M → mk3.testBit (ix 6 M q3 Z) = true)
    (l2 : c2 < 2 ^ 6) (l3 : c3 < 2 ^ 6) (lc : c < 2 ^ 6)
    (hb : Nat.ble (bnd (eof 6 qE (gl 6 H)) (fz mk1 (gl 6 H)) (fz mk2 (gl 6 H)) (fz mk3 (gl 6 H)) (fz (qb 6 q1) (gl 6 H)) (fz (qb 6 q2) (gl 6 H)) (fz (qb 6 q3) (gl 6 H)) (fz mk2 (gl 6 H) + fz (xmk 6 q2 mk2 (gf 6 H) c2) (gl 6 H)) (fz mk3 (gl 6 H) + fz (xmk 6 q3 mk3 (gf 6 H) c3) (gl 6 H)) (fz (xmk 6 q2 (qb 6 q2) (gf 6 H) c) (gl 6 H))) 149 = true) : EB m 9 p 149 := by
  have hle := Nat.le_of_ble_eq_true hb
  unfold bnd at hle
  generalize hEe : eof 6 qE (gl 6 H) = E at *
  generalize ha1 : fz mk1 (gl 6 H) = a1 at *
  generalize ha2 : fz mk2 (gl 6 H) = a2 at *
  generalize ha3 : fz mk3 (gl 6 H) = a3 at *
  generalize hz1 : fz (qb 6 q1) (gl 6 H) = z1 at *
  generalize hz2 : fz (qb 6 q2) (gl 6 H) = z2 at *
  generalize hz3 : fz (qb 6 q3) (gl 6 H) = z3 at *
  generalize hy2 : fz (xmk 6 q2 mk2 (gf 6 H) c2) (gl 6 H) = y2 at *
  generalize hy3 : fz (xmk 6 q3 mk3 (gf 6 H) c3) (gl 6 H) = y3 at *
  generalize hx2 : fz (xmk 6 q2 (qb 6 q2) (gf 6 H) c) (gl 6 H) = x2 at *
  have d1 := le_mx z1 (mx2 z2 (a1 + 2 + (a2 + y2)))
  have d2 := le_mx z2 (a1 + 2 + (a2 + y2))
  have d3 := le_mx z2 (mx2 z3 (a2 + 2 + (a3 + y3)))
  have d4 := le_mx z3 (a2 + 2 + (a3 + y3))
  have d5 := le_mx z3 (x2 + 2 + (a3 + y3))
  generalize mx2 z2 (a1 + 2 + (a2 + y2)) = u1 at *
  generalize mx2 z1 u1 = D at *
  generalize mx2 z3 (a2 + 2 + (a3 + y3)) = u2 at *
  generalize mx2 z2 u2 = D' at *
  generalize mx2 z3 (x2 + 2 + (a3 + y3)) = X at *
  have qbt : ∀ {q : Nat}, q < 8 → ∀ M Z, M < 2 ^ 6 → Z < 2 ^ 6 → subB 0 M → (qb 6 q).testBit (ix 6 M q Z) = true := fun hq M Z hM hZ _ => qb_bit hM hq hZ
  have tE : EB m 6 p E := by
    have := EB_of hW hG hE.1 60 (show eof 6 qE (gl 6 H) < 100000 by omega)
    rw [show eof 6 qE (lay (alt 6) (tgs (2 * 6 + 3) H 0) 60 (dia 6 6)) = E from hEe] at this
    exact hE.eb (by decide) this
  have db : ∀ {q i mk a A : Nat}, Cq 6 q i → (∀ M Z, M < 2 ^ 6 → Z < 2 ^ 6 → subB A M → mk.testBit (ix 6 M i Z) = true) → fz mk (gl 6 H) = a → a < 100000 → DB m 6 q A a := fun {q i mk a A} hC hk e ha => by
    have := DB_of hW hG hC.1 hk 60 (show fz mk (gl 6 H) < 100000 by omega)
    rw [show fz mk (lay (alt 6) (tgs (2 * 6 + 3) H 0) 60 (dia 6 6)) = a from e] at this
    exact hC.db (by decide) this
  have xb : ∀ {q i mk a A c : Nat}, Cq 6 q i → (∀ M Z, M < 2 ^ 6 → Z < 2 ^ 6 → subB A M → mk.testBit (ix 6 M i Z) = true) → c < 2 ^ 6 → fz (xmk 6 i mk (gf 6 H) c) (gl 6 H) = a → a < 100000 → XB m 6 q A c a := fun {q i mk a A c} hC hk hc e ha => by
    have := XB_of hW hG hC.1 hk hc 60 60 (show fz (xmk 6 i mk (gf 6 H) c) (gl 6 H) < 100000 by omega)
    rw [show fz (xmk 6 i mk (fin (alt 6) (tgs (2 * 6 + 3) H 0) 60 (dia 6 6)) c) (lay (alt 6) (tgs (2 * 6 + 3) H 0) 60 (dia 6 6)) = a from e] at this
    exact hC.xb (by decide) this
  have g1 := db h1 k1 ha1 (by omega)
  have g2 := db h2 k2 ha2 (by omega)
  have g3 := db h3 k3 ha3 (by omega)
  have t2 := SB.of hW g2 (xb h2 k2 l2 hy2 (by omega))
  have t3 := SB.of hW g3 (xb h3 k3 l3 hy3 (by omega))
  have := six hW p tE g1 g2 g3 (db h1 (qbt h1.1) hz1 (by omega)) (db h2 (qbt h2.1) hz2 (by omega)) (db h3 (qbt h3.1) hz3 (by omega)) t2 t3 (xb h2 (qbt h2.1) lc hx2 (by omega)) (D := D) (D' := D') (X := X) (by omega) (by omega) (by omega) (by omega) (by omega) (by omega) (by omega) (by omega) (by omega) (by omega)
  exact this.weak (by omega)
/-- From seven nodes. -/
theorem seven_ok (hW : Wf m) (hG : Gr m 7 H) {c : Nat} (hp : p < 8) (lc : c < 2 ^ 7)
    (hb : Nat.ble (eof 7 p (gl 7 H) + 1 + fz (qb 7 (p - 1)) (gl 7 H) + 1 + (fz (qb 7 (p - 1)) (gl 7 H) + 2 + (fz (qb 7 (p - 1 - 1)) (gl 7 H) + fz (xmk 7 (p - 1 - 1) (qb 7 (p - 1 - 1)) (gf 7 H) c) (gl 7 H)))) 149 = true) : EB m 9 p 149 := by
  have hle := Nat.le_of_ble_eq_true hb
  have qbt : ∀ {q : Nat}, q < 8 → ∀ M Z, M < 2 ^ 7 → Z < 2 ^ 7 → subB 0 M → (qb 7 q).testBit (ix 7 M q Z) = true := fun hq M Z hM hZ _ => qb_bit hM hq hZ
  have tE := EB_of hW hG hp 60 (show eof 7 p (gl 7 H) < 100000 by omega)
  have g1 := DB_of hW hG (show p - 1 < 8 by omega) (qbt (by omega)) 60 (show fz (qb 7 (p - 1)) (gl 7 H) < 100000 by omega)
  have g2 := DB_of hW hG (show p - 1 - 1 < 8 by omega) (qbt (by omega)) 60 (show fz (qb 7 (p - 1 - 1)) (gl 7 H) < 100000 by omega)
  have g3 := XB_of hW hG (show p - 1 - 1 < 8 by omega) (qbt (by omega)) lc 60 60 (show fz (xmk 7 (p - 1 - 1) (qb 7 (p - 1 - 1)) (gf 7 H) c) (gl 7 H) < 100000 by omega)
  have := nine hW p tE g1 g2 (SB.of hW g2 g3) (Nat.le_add_right _ _)
  exact this.weak hle
end
/-! ### The check -/
def last (msk : Nat) : List Nat → Nat → Nat
  | [], c => c
  | d :: r, c => cond (Nat.beq (Nat.land d msk) 0) c (last msk r (Nat.land d msk))
def hib : Nat → Nat → Nat → Nat
  | 0, _, c => c
  | b + 1, T, c => cond (Nat.beq (Nat.shiftRight T (2 ^ b)) 0) (hib b T c) (hib b (Nat.shiftRight T (2 ^ b)) (c + 2 ^ b))
/-- A position far from another: a hint. -/
def cof (n msk : Nat) (l : List Nat) : Nat := hib (2 * n + 3) (last msk l 0) 0 % 2 ^ n
/-- The rows of positions that hold A. -/
def mk (n q A : Nat) : Nat → Nat
  | 0 => qb n q
  | x + 1 => cond (Nat.testBit A x) (Nat.land (mk n q A x) (vt (2 * n + 3) (n + 3 + x))) (mk n q A x)
theorem mk_bit {n q A P Q : Nat} (hP : P < 2 ^ n) (hq : q < 8) (hQ : Q < 2 ^ n) (hs : subB A P) : ∀ x, x ≤ n → (mk n q A x).testBit (ix n P q Q) = true
  | 0, _ => qb_bit hP hq hQ
  | x + 1, hx => by
    have ih := mk_bit hP hq hQ hs x (by omega)
    rw [mk]
    cases hb : Nat.testBit A x
    · exact ih
    · show (mk n q A x &&& vt (2 * n + 3) (n + 3 + x)).testBit _ = true
      rw [Nat.testBit_and, ih, vt_bit (by omega) (ix_lt hP hq hQ), ix_top hQ hq, hs x hb]; rfl
def un0 (l : List Nat) (Rf qE q1 q2 q3 : Nat) : Bool :=
  Nat.ble (bnd (eof 6 qE l) (fz (qb 6 q1) l) (fz (qb 6 q2) l) (fz (qb 6 q3) l) (fz (qb 6 q1) l) (fz (qb 6 q2) l) (fz (qb 6 q3) l) (fz (qb 6 q2) l + fz (xmk 6 q2 (qb 6 q2) Rf 0) l) (fz (qb 6 q3) l + fz (xmk 6 q3 (qb 6 q3) Rf 0) l) (fz (xmk 6 q2 (qb 6 q2) Rf 0) l)) 149
def un1 (l : List Nat) (Rf qE q1 q2 q3 : Nat) : Bool :=
  Nat.ble (bnd (eof 6 qE l) (fz (qb 6 q1) l) (fz (qb 6 q2) l) (fz (qb 6 q3) l) (fz (qb 6 q1) l) (fz (qb 6 q2) l) (fz (qb 6 q3) l) (fz (qb 6 q2) l + fz (xmk 6 q2 (qb 6 q2) Rf (cof 6 (qb 6 q2) l)) l) (fz (qb 6 q3) l + fz (xmk 6 q3 (qb 6 q3) Rf (cof 6 (qb 6 q3) l)) l) (fz (xmk 6 q2 (qb 6 q2) Rf (cof 6 (qb 6 q2) l)) l)) 149
def rf (l : List Nat) (Rf qE q1 q2 q3 A : Nat) : Bool :=
  Nat.ble (bnd (eof 6 qE l) (fz (mk 6 q1 A 6) l) (fz (mk 6 q2 A 6) l) (fz (mk 6 q3 A 6) l) (fz (qb 6 q1) l) (fz (qb 6 q2) l) (fz (qb 6 q3) l) (fz (mk 6 q2 A 6) l + fz (xmk 6 q2 (mk 6 q2 A 6) Rf (cof 6 (mk 6 q2 A 6) l)) l) (fz (mk 6 q3 A 6) l + fz (xmk 6 q3 (mk 6 q3 A 6) Rf (cof 6 (mk 6 q3 A 6) l)) l) (fz (xmk 6 q2 (qb 6 q2) Rf (cof 6 (qb 6 q2) l)) l)) 149
def sv1 (l : List Nat) (Rf p q1 q2 : Nat) : Bool :=
  Nat.ble (eof 7 p l + 1 + fz (qb 7 q1) l + 1 + (fz (qb 7 q1) l + 2 + (fz (qb 7 q2) l + fz (xmk 7 q2 (qb 7 q2) Rf (cof 7 (qb 7 q2) l)) l))) 149
def sv (H : List Nat) (p q1 q2 : Nat) : Bool := sv1 (gl 7 H) (gf 7 H) p q1 q2
/-- All masks of node 6 that begin as I does. -/
def tree (H : List Nat) (m5 p qE q1 q2 q3 : Nat) : Nat → Nat → Bool → Bool
  | 0, I, fr => (fr && rf (gl 6 H) (gf 6 H) qE q1 q2 q3 I) || (Nat.blt I m5 || sv (H ++ [I]) p q1 q2)
  | b + 1, I, fr => (fr && rf (gl 6 H) (gf 6 H) qE q1 q2 q3 I) || (Nat.blt (I + 2 ^ (b + 1) - 1) m5 || (tree H m5 p qE q1 q2 q3 b (I + 2 ^ b) true && tree H m5 p qE q1 q2 q3 b I false))
def one (H : List Nat) (m5 p qE q1 q2 q3 : Nat) : Bool := un0 (gl 6 H) (gf 6 H) qE q1 q2 q3 || (un1 (gl 6 H) (gf 6 H) qE q1 q2 q3 || tree H m5 p qE q1 q2 q3 6 0 true)
def two (H : List Nat) (qE q1 q2 q3 : Nat) : Bool := un0 (gl 6 H) (gf 6 H) qE q1 q2 q3 || un1 (gl 6 H) (gf 6 H) qE q1 q2 q3
def chk (H : List Nat) (m5 : Nat) : Bool :=
  one H m5 5 5 4 3 2 && (one H m5 6 6 5 4 3 && (one H m5 7 6 6 5 4 && (one H m5 4 4 3 2 1 && (two H 6 6 6 5 && (two H 6 6 6 6 && (two H 3 2 1 0 && (two H 2 1 0 0 && two H 1 0 0 0)))))))
end Tt
end Peb
end Go.Proofs.Ytapgpjhogdmjbaa
