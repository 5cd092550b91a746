/-
  Slices of records: the words, and the laws' helpers on them: measure, copy, compare. Conditions: sizes up to 2^20.
-/
import Derived.Test.YtapgpjhogdmjbaaDoorPair
import Derived.Test.YtapgpjhogdmjbaaDoorLaw
namespace Go.Proofs.YtapgpjhogdmjbaaDoor
open Go.RowKit

structure Rec where
  name : ByteArray
  sys : Int
  size : Int
  extra : Int
def recCells : List Rec → List Value
  | [] => []
  | r :: rs => .string r.name :: .int .i64 r.sys :: .int .i64 r.size :: .int .i64 r.extra :: recCells rs
@[simp] theorem length_recCells (rs : List Rec) : (recCells rs).length = rs.length * 4 := by
  induction rs with
  | nil => rfl
  | cons r rs ih => simp [recCells, ih]; omega
theorem recCells_get (rs : List Rec) : ∀ {k : Nat} (h : k < rs.length), (recCells rs)[k * 4]? = some (.string rs[k].name) ∧ (recCells rs)[k * 4 + 1]? = some (.int .i64 rs[k].sys) ∧ (recCells rs)[k * 4 + 2]? = some (.int .i64 rs[k].size) ∧ (recCells rs)[k * 4 + 3]? = some (.int .i64 rs[k].extra) := by
  induction rs with
  | nil => intro k h; simp at h
  | cons r rs ih =>
    intro k h
    cases k with
    | zero => simp [recCells]
    | succ k =>
      have := ih (k := k) (by simpa using h)
      rw [show (k + 1) * 4 = k * 4 + 4 from by omega]
      simpa [recCells] using this
def RdRec (w : World) (v : Value) (rs : List Rec) : Prop := Rd w 4 v rs.length (recCells rs)
def I64_RecordS (rs : List Rec) : Prop := ∀ r ∈ rs, I64 r.sys ∧ I64 r.size ∧ I64 r.extra
def Bd_RecordS (rs : List Rec) : Prop := rs.length ≤ 1048576 ∧ ∀ r ∈ rs, r.name.size ≤ 1048576
section
variable {w w' : World} {lo hi : Nat} {v : Value} {rs : List Rec}
theorem RdRec.ext (h : RdRec w v rs) (he : Ext w w') : RdRec w' v rs := Rd.ext h he
theorem RdRec.form (h : RdRec w v rs) : ∃ A c, v = .slice A rs.length c ∧ rs.length ≤ c ∧ c ≤ maxLen ∧ Hid (RdRec w (.slice A rs.length c) rs) := by
  have h' := h
  obtain ⟨hl, A, c, hv, h1, h2, _⟩ := h'
  subst hv
  exact ⟨A, c, rfl, h1, h2, hd h⟩
theorem off_cell3 {a : Addr} {i : Nat} {u : Value} (h : w.cell? (a.add (i + 3)) = some u) : w.cell? ⟨(a.add i).block, (a.add i).off + 3, none⟩ = some u := by
  have e : (⟨(a.add i).block, (a.add i).off + 3, none⟩ : Addr) = a.add (i + 3) := by
    unfold Addr.add
    by_cases hi : i = 0 <;> simp [hi, Nat.add_assoc]
  rw [e]; exact h
theorem RdRec.at_ {A : Option Addr} {n c : Nat} (h : Hid (RdRec w (.slice A n c) rs)) {k : Nat} (hk : k < rs.length) : ∃ a, A = some a ∧ w.cell? (a.add (k * 4)) = some (.string rs[k].name) ∧ w.cell? ⟨(a.add (k * 4)).block, (a.add (k * 4)).off + 1, none⟩ = some (.int .i64 rs[k].sys) ∧ w.cell? ⟨(a.add (k * 4)).block, (a.add (k * 4)).off + 2, none⟩ = some (.int .i64 rs[k].size) ∧ w.cell? ⟨(a.add (k * 4)).block, (a.add (k * 4)).off + 3, none⟩ = some (.int .i64 rs[k].extra) := by
  obtain ⟨hl, A', c', hv, h1, h2, hc⟩ := h.out
  obtain ⟨g0, g1, g2, g3⟩ := recCells_get rs hk
  obtain ⟨a, ha, c0⟩ := hc _ _ g0
  obtain ⟨a1, ha1, c1⟩ := hc _ _ g1
  obtain ⟨a2, ha2, c2⟩ := hc _ _ g2
  obtain ⟨a3, ha3, c3⟩ := hc _ _ g3
  rw [ha] at ha1 ha2 ha3
  injection ha1 with ha1; injection ha2 with ha2; injection ha3 with ha3
  subst ha1; subst ha2; subst ha3
  injection hv with hA _ _
  exact ⟨a, hA.trans ha, c0, off_cell c1, off_cell2 c2, off_cell3 c3⟩
end
def szRgo : List Rec → Int → Int
  | [], left => left
  | r :: rs, left => if szI r.name.size left < 0 then -1 else szRgo rs (szI r.name.size left)
def sz_RecordS (rs : List Rec) (left : Int) : Int := if left - (rs.length : Int) < 0 then -1 else szRgo rs (left - rs.length)
theorem szI_ok' {n : Nat} {left : Int} (h : ¬ szI n left < 0) : (n : Int) ≤ left ∧ szI n left = left - n := by
  unfold szI at h ⊢
  split at h
  · omega
  · rename_i h1; rw [if_neg h1]; omega
theorem szRgo_bd (rs : List Rec) : ∀ left : Int, -1 ≤ left → left ≤ 1048576 → -1 ≤ szRgo rs left ∧ szRgo rs left ≤ 1048576 := by
  induction rs with
  | nil => intro left h1 h2; exact ⟨h1, h2⟩
  | cons r rs ih =>
    intro left h1 h2
    unfold szRgo
    split
    · omega
    · have := szI_bd r.name.size left h2; exact ih _ this.1 this.2
theorem sz_RecordS_bd (rs : List Rec) (left : Int) (h : left ≤ 1048576) : -1 ≤ sz_RecordS rs left ∧ sz_RecordS rs left ≤ 1048576 := by
  unfold sz_RecordS
  split
  · omega
  · exact szRgo_bd _ _ (by omega) (by omega)
theorem szRgo_le (rs : List Rec) : ∀ left : Int, 0 ≤ szRgo rs left → ∀ r ∈ rs, (r.name.size : Int) ≤ left := by
  induction rs with
  | nil => intro left _ r h; cases h
  | cons x rs ih =>
    intro left h r hr
    unfold szRgo at h
    split at h
    · omega
    · rename_i h1
      have h2 := szI_ok' h1
      rcases List.mem_cons.1 hr with rfl | hr
      · exact h2.1
      · have := ih _ h r hr; omega
theorem sz_RecordS_ok {rs : List Rec} {left : Int} (h : ¬ sz_RecordS rs left < 0) (hl : left ≤ 1048576) : Bd_RecordS rs := by
  unfold sz_RecordS at h
  split at h
  · omega
  · have := szRgo_le rs (left - rs.length) (by omega)
    exact ⟨by omega, fun r hr => by have := this r hr; omega⟩
end Go.Proofs.YtapgpjhogdmjbaaDoor
