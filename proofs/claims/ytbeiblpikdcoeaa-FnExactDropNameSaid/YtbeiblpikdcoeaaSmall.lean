/-
  SmallestSystem, both sides. No condition of its own.
-/
import Derived.Test.YtbeiblpikdcoeaaBook3
namespace Go.Proofs.Ytbeiblpikdcoeaa
open Go.RowKit
def bestStep (name : ByteArray) (b z : Int) (r : Rec) : Int × Int := if r.name.toList == name.toList then (if b = 0 then (r.sys, r.size) else if r.size < z then (r.sys, r.size) else (b, z)) else (b, z)
def bestG (name : ByteArray) : Int × Int → List Rec → Int × Int
  | p, [] => p
  | p, r :: rs => bestG name (bestStep name p.1 p.2 r) rs
def smallL (rs : List Rec) (name : ByteArray) : Int := if bookB rs then (bestG name (0, 0) rs).1 else 0
def smallB (rs : List Rec) (name : ByteArray) : Bool := decide (smallL rs name > 0)
theorem bookG_all : ∀ (rs : List Rec) (p : Option Rec), bookG p rs = true → ∀ r ∈ rs, recOkB r = true
  | [], _, _, r, hr => by simp at hr
  | a :: rs, none, h, r, hr => by
    unfold bookG at h
    by_cases ha : recOkB a = true
    · rw [if_pos ha] at h
      rcases List.mem_cons.1 hr with rfl | hr
      · exact ha
      · exact bookG_all rs _ h r hr
    · rw [if_neg ha] at h; exact absurd h (by decide)
  | a :: rs, some p, h, r, hr => by
    unfold bookG at h
    by_cases ha : recOkB a = true
    · rw [if_pos ha] at h
      by_cases hb : beforeB p a.name a.sys = true
      · rw [if_pos hb] at h
        rcases List.mem_cons.1 hr with rfl | hr
        · exact ha
        · exact bookG_all rs _ h r hr
      · rw [if_neg hb] at h; exact absurd h (by decide)
    · rw [if_neg ha] at h; exact absurd h (by decide)
theorem bestG_none (name : ByteArray) : ∀ (rs : List Rec) (p : Int × Int), (∀ r ∈ rs, (r.name.toList == name.toList) = false) → bestG name p rs = p
  | [], _, _ => rfl
  | r :: rs, p, h => by
    unfold bestG bestStep
    rw [h r (List.mem_cons_self ..)]
    exact bestG_none name rs _ fun x hx => h x (List.mem_cons_of_mem _ hx)
theorem book_name {rs : List Rec} {name : ByteArray} (hb : bookB rs = true) (hn : nameB name = false) : ∀ r ∈ rs, (r.name.toList == name.toList) = false := by
  intro r hr
  cases e : r.name.toList == name.toList with
  | false => rfl
  | true =>
    have h1 : r.name.toList = name.toList := by simpa using e
    have h2 : r.name = name := by
      rw [ByteArray.toList_eq, ByteArray.toList_eq] at h1
      exact ByteArray.ext (Array.toList_inj.1 h1)
    have hg : bookG none rs = true := by unfold bookB at hb; simp only [Bool.and_eq_true] at hb; exact hb.2
    have h3 := bookG_all rs none hg r hr
    unfold recOkB at h3
    rw [h2, hn] at h3
    simp at h3
theorem blk4 {w : World} {b : Nat} {x y z u : Value} {e : TypeId} (h : w.heap[b]? = some (.cells #[x, y, z, u] e)) : w.cell? ⟨b, 0, none⟩ = some x ∧ w.cell? ⟨b, 1, none⟩ = some y ∧ w.cell? ⟨b, 2, none⟩ = some z ∧ w.cell? ⟨b, 3, none⟩ = some u := by
  simp [World.cell?, h]
theorem blk4f {w : World} {b : Nat} {x y z u : Value} {e : TypeId} (h : w.heap[b]? = some (.cells #[x, y, z, u] e)) : w.frozen? ⟨b, 0, none⟩ = false ∧ w.frozen? ⟨b, 1, none⟩ = false ∧ w.frozen? ⟨b, 2, none⟩ = false ∧ w.frozen? ⟨b, 3, none⟩ = false := by
  simp [World.frozen?, h]
theorem blk4_set {w : World} {b : Nat} {x y z u x' y' z' u' : Value} {e : TypeId} (h : w.heap[b]? = some (.cells #[x, y, z, u] e)) : ((((w.setCell ⟨b, 0, none⟩ x').setCell ⟨b, 1, none⟩ y').setCell ⟨b, 2, none⟩ z').setCell ⟨b, 3, none⟩ u').heap[b]? = some (.cells #[x', y', z', u'] e) := by
  simp [World.setCell, Array.getElem?_modify, h]
set_option maxHeartbeats 800000 in
theorem s_l31Takes (rs : List Rec) (v : Value) (name : ByteArray) (w : World) (h : Rd_RecordS w v rs) (hl : rs.length ≤ 1048576) (hn : name.size ≤ 9223372036854775807) :
    Calls Try.prog 83 #[v, .string name] w (RetX w (.bool (bookB rs && nameB name))) := by
  obtain ⟨b, hb⟩ : ∃ b, bookB rs = b := ⟨_, rfl⟩
  have HB := hd hb
  rw [hb]
  clear hb
  go_enter Try.func83, Try.ntmps83
  cases b
  · go_wp2_with (first | (go_at_call 77; (with_reducible refine (rtx (s_l31Good rs v _ h hl) HB).mono ?_); rintro e w1 ⟨rfl, hx⟩) | (go_at_call 122; (with_reducible refine (s_l31Name _ _ hn).mono ?_); rintro e w1 ⟨rfl, rfl⟩))
    go_ret
    exact RetX.mk rfl hx
  · go_wp2_with (first | (go_at_call 77; (with_reducible refine (rtx (s_l31Good rs v _ h hl) HB).mono ?_); rintro e w1 ⟨rfl, hx⟩) | (go_at_call 122; (with_reducible refine (s_l31Name _ _ hn).mono ?_); rintro e w1 ⟨rfl, rfl⟩))
    go_ret
    exact RetX.mk rfl hx
end Go.Proofs.Ytbeiblpikdcoeaa
