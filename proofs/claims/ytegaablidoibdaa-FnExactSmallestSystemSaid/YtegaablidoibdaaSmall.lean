/-
  SmallestSystem, both sides. No condition of its own.
-/
import Derived.Test.YtegaablidoibdaaBook3
namespace Go.Proofs.Ytegaablidoibdaa
open Go.RowKit
def bestStep (name : ByteArray) (b z : Int) (r : Rec) : Int × Int := if r.name.toList == name.toList then (if b = 0 then (r.sys, r.size) else if r.size < z then (r.sys, r.size) else (b, z)) else (b, z)
def bestG (name : ByteArray) : Int × Int → List Rec → Int × Int
  | p, [] => p
  | p, r :: rs => bestG name (bestStep name p.1 p.2 r) rs
def smallL (rs : List Rec) (name : ByteArray) : Int := if bookB rs then (bestG name (0, 0) rs).1 else 0
def smallB (rs : List Rec) (name : ByteArray) : Bool := decide (smallL rs name > 0)
theorem bookG_all : ∀ (rs : List Rec) (p : Option Rec), bookG p rs = true → ∀ r ∈ rs, recOkB r = true
  | [], _, _, r, hr => by simp at hr
  | a :: rs, none, h, r, hr => by
    unfold bookG at h
    by_cases ha : recOkB a = true
    · rw [if_pos ha] at h
      rcases List.mem_cons.1 hr with rfl | hr
      · exact ha
      · exact bookG_all rs _ h r hr
    · rw [if_neg ha] at h; exact absurd h (by decide)
  | a :: rs, some p, h, r, hr => by
    unfold bookG at h
    by_cases ha : recOkB a = true
    · rw [if_pos ha] at h
      by_cases hb : beforeB p a.name a.sys = true
      · rw [if_pos hb] at h
        rcases List.mem_cons.1 hr with rfl | hr
        · exact ha
        · exact bookG_all rs _ h r hr
      · rw [if_neg hb] at h; exact absurd h (by decide)
    · rw [if_neg ha] at h; exact absurd h (by decide)
theorem bestG_none (name : ByteArray) : ∀ (rs : List Rec) (p : Int × Int), (∀ r ∈ rs, (r.name.toList == name.toList) = false) → bestG name p rs = p
  | [], _, _ => rfl
  | r :: rs, p, h => by
    unfold bestG bestStep
    rw [h r (List.mem_cons_self ..)]
    exact bestG_none name rs _ fun x hx => h x (List.mem_cons_of_mem _ hx)
theorem book_name {rs : List Rec} {name : ByteArray} (hb : bookB rs = true) (hn : nameB name = false) : ∀ r ∈ rs, (r.name.toList == name.toList) = false := by
  intro r hr
  cases e : r.name.toList == name.toList with
  | false => rfl
  | true =>
    have h1 : r.name.toList = name.toList := by simpa using e
    have h2 : r.name = name := by
      rw [ByteArray.toList_eq, ByteArray.toList_eq] at h1
      exact ByteArray.ext (Array.toList_inj.1 h1)
    have hg : bookG none rs = true := by unfold bookB at hb; simp only [Bool.and_eq_true] at hb; exact hb.2
    have h3 := bookG_all rs none hg r hr
    unfold recOkB at h3
    rw [h2, hn] at h3
    simp at h3
theorem blk4 {w : World} {b : Nat} {x y z u : Value} {e : TypeId} (h : w.heap[b]? = some (.cells #[x, y, z, u] e)) : w.cell? ⟨b, 0, none⟩ = some x ∧ w.cell? ⟨b, 1, none⟩ = some y ∧ w.cell? ⟨b, 2, none⟩ = some z ∧ w.cell? ⟨b, 3, none⟩ = some u := by
  simp [World.cell?, h]
theorem blk4f {w : World} {b : Nat} {x y z u : Value} {e : TypeId} (h : w.heap[b]? = some (.cells #[x, y, z, u] e)) : w.frozen? ⟨b, 0, none⟩ = false ∧ w.frozen? ⟨b, 1, none⟩ = false ∧ w.frozen? ⟨b, 2, none⟩ = false ∧ w.frozen? ⟨b, 3, none⟩ = false := by
  simp [World.frozen?, h]
theorem blk4_set {w : World} {b : Nat} {x y z u x' y' z' u' : Value} {e : TypeId} (h : w.heap[b]? = some (.cells #[x, y, z, u] e)) : ((((w.setCell ⟨b, 0, none⟩ x').setCell ⟨b, 1, none⟩ y').setCell ⟨b, 2, none⟩ z').setCell ⟨b, 3, none⟩ u').heap[b]? = some (.cells #[x', y', z', u'] e) := by
  simp [World.setCell, Array.getElem?_modify, h]
set_option maxHeartbeats 800000 in
theorem s_l31Takes (rs : List Rec) (v : Value) (name : ByteArray) (w : World) (h : Rd_RecordS w v rs) (hl : rs.length ≤ 1048576) (hn : name.size ≤ 9223372036854775807) :
    Calls Try.prog 115 #[v, .string name] w (RetX w (.bool (bookB rs && nameB name))) := by
  obtain ⟨b, hb⟩ : ∃ b, bookB rs = b := ⟨_, rfl⟩
  have HB := hd hb
  rw [hb]
  clear hb
  go_enter Try.func115, Try.ntmps115
  cases b
  · go_wp2_with (first | (go_at_call 107; (with_reducible refine (rtx (s_l31Good rs v _ h hl) HB).mono ?_); rintro e w1 ⟨rfl, hx⟩) | (go_at_call 137; (with_reducible refine (s_l31Name _ _ hn).mono ?_); rintro e w1 ⟨rfl, rfl⟩))
    go_ret
    exact RetX.mk rfl hx
  · go_wp2_with (first | (go_at_call 107; (with_reducible refine (rtx (s_l31Good rs v _ h hl) HB).mono ?_); rintro e w1 ⟨rfl, hx⟩) | (go_at_call 137; (with_reducible refine (s_l31Name _ _ hn).mono ?_); rintro e w1 ⟨rfl, rfl⟩))
    go_ret
    exact RetX.mk rfl hx
set_option maxRecDepth 100000 in
set_option maxHeartbeats 3200000 in
theorem s_SmallestSystem (rs : List Rec) (v : Value) (name : ByteArray) (w : World) (h : Rd_RecordS w v rs) (b : Bd_RecordS rs) (_ : I64_RecordS rs) (hn : name.size ≤ 1048576) :
    Calls Try.prog 65 #[v, .string name] w (RetX w (.tuple #[.int .i64 (smallL rs name), .bool (smallB rs name)])) := by
  have HN := hd hn
  clear hn
  have HH := hd h
  have hl := b.1
  clear b
  obtain ⟨A, c, rfl, h1, h2, ha⟩ := h.form
  clear h
  obtain ⟨q, hq⟩ : ∃ q, (bookB rs && nameB name) = q := ⟨_, rfl⟩
  have HQ := hd hq
  clear hq
  go_enter Try.func65, Try.ntmps65
  cases q
  · have HS : Hid (smallL rs name = 0) := hd (by
      unfold smallL
      cases hb : bookB rs
      · rfl
      · have hn := HQ.out
        rw [hb, Bool.true_and] at hn
        rw [if_pos rfl, bestG_none name rs _ (book_name hb hn)])
    go_wp2_with (first | (go_at_call 115; (with_reducible refine (rtx (s_l31Takes rs _ name _ HH.out hl (Nat.le_trans HN.out (by omega))) HQ).mono ?_); rintro e w1 ⟨rfl, hx⟩))
    go_ret2
    exact RetX.mk (by unfold smallB; rw [HS.out]; rfl) hx
  · have HS : Hid (smallL rs name = (bestG name (0, 0) rs).1) := hd (by
      unfold smallL
      have hn := HQ.out
      rw [Bool.and_eq_true] at hn
      rw [if_pos hn.1])
    go_wp2_with (first | (go_at_call 115; (with_reducible refine (rtx (s_l31Takes rs _ name _ HH.out hl (Nat.le_trans HN.out (by omega))) HQ).mono ?_); rintro e w1 ⟨rfl, hx⟩))
    have HX1 := hd hx
    clear hx
    go_loopw [6, 7, 8] (fun best size i wr => ∃ (k : Nat) (b z : Int), k ≤ rs.length ∧ best = .int .i64 b ∧ size = .int .i64 z ∧ i = .int .i64 k ∧ Hid (bestG name (0, 0) rs = bestG name (b, z) (rs.drop k)) ∧ Ext w wr) (fun _ _ i _ => rs.length - (intOf i).toNat)
    case atStart => exact ⟨0, 0, 0, by omega, rfl, rfl, rfl, hd rfl, HX1.out⟩
    case round =>
      obtain ⟨k, b, z, hk, rfl, rfl, rfl, HR, hx⟩ := hrel
      have HX := hd hx
      clear hx
      by_cases hlt : k < rs.length
      · obtain ⟨a, rfl, d0, d1, d2, d3⟩ := RdRec.at_ ha hlt
        have c0 := HX.out.cell d0
        have c1 := HX.out.cell d1
        have c2 := HX.out.cell d2
        rw [drop_cons hlt] at HR
        clear d0 d1 d2 d3
        generalize rs[k] = r at *
        obtain ⟨t, ht⟩ : ∃ t, (r.name.toList == name.toList) = t := ⟨_, rfl⟩
        have HR2 : Hid (bestG name (0, 0) rs = bestG name (if t then (if b = 0 then (r.sys, r.size) else if r.size < z then (r.sys, r.size) else (b, z)) else (b, z)) (rs.drop (k + 1))) := hd (by rw [HR.out, ← ht]; rfl)
        clear HR
        cases t
        · go_wp2
          go_roundw
          case rel => exact ⟨k + 1, b, z, by omega, rfl, rfl, by go_num, hd HR2.out, HX.out⟩
          case measure => simp [intOf]; omega
        · by_cases hb : b = 0
          · go_wp2
            go_roundw
            case rel => exact ⟨k + 1, r.sys, r.size, by omega, rfl, rfl, by go_num, hd (by rw [HR2.out, if_pos rfl, if_pos hb]), HX.out⟩
            case measure => simp [intOf]; omega
          · by_cases hz : r.size < z
            · go_wp2
              go_roundw
              case rel => exact ⟨k + 1, r.sys, r.size, by omega, rfl, rfl, by go_num, hd (by rw [HR2.out, if_pos rfl, if_neg hb, if_pos hz]), HX.out⟩
              case measure => simp [intOf]; omega
            · go_wp2
              go_roundw
              case rel => exact ⟨k + 1, b, z, by omega, rfl, rfl, by go_num, hd (by rw [HR2.out, if_pos rfl, if_neg hb, if_neg hz]), HX.out⟩
              case measure => simp [intOf]; omega
      · go_wp2
        go_ret2
        exact RetX.mk (by unfold smallB; rw [HS.out, HR.out, List.drop_eq_nil_of_le (by omega)]; rfl) HX.out
set_option maxRecDepth 100000 in
set_option maxHeartbeats 3200000 in
theorem i_SmallestSystem (rs : List Rec) (v : Value) (name : ByteArray) (w : World) (h : Rd_RecordS w v rs) (b : Bd_RecordS rs) (hi : I64_RecordS rs) (hn : name.size ≤ 1048576) :
    Calls Try.prog 66 #[v, .string name] w (RetX w (.tuple #[.int .i64 (smallL rs name), .bool (smallB rs name)])) := by
  have HH := hd h
  have hl := b.1
  clear b
  obtain ⟨A, c, rfl, h1, h2, ha⟩ := h.form
  clear h
  obtain ⟨q, hq⟩ : ∃ q, bookB rs = q := ⟨_, rfl⟩
  have HQ := hd hq
  clear hq
  go_enter Try.func66, Try.ntmps66
  cases q
  · have HS : Hid (smallL rs name = 0) := hd (by unfold smallL; rw [HQ.out]; rfl)
    go_wp2_with (first | (go_at_call 60; (with_reducible refine (rtx (i_IsBook rs _ _ HH.out hl) HQ).mono ?_); rintro e w1 ⟨rfl, hx⟩))
    go_ret2
    exact RetX.mk (by unfold smallB; rw [HS.out]; rfl) hx
  · have HS : Hid (smallL rs name = (bestG name (0, 0) rs).1) := hd (by unfold smallL; rw [if_pos HQ.out])
    go_wp2_with (first | (go_at_call 60; (with_reducible refine (rtx (i_IsBook rs _ _ HH.out hl) HQ).mono ?_); rintro e w1 ⟨rfl, hx⟩))
    have HX1 := hd hx
    clear hx
    have HB1 := hd (blk_new (w := w1) (.cells #[.string .empty, .int .i64 0, .int .i64 0, .int .i64 0] 117) rfl)
    have HX2 := hd (HX1.out.alloc (.cells #[.string .empty, .int .i64 0, .int .i64 0, .int .i64 0] 117))
    have HGW := hd HX1.out.size
    generalize w1.heap.size = g at *
    go_loopw [15, 8] (fun i _ wr => ∃ (k : Nat) (nm : ByteArray) (b z ex : Int), k ≤ rs.length ∧ i = .int .i64 k ∧ Hid (bestG name (0, 0) rs = bestG name (b, z) (rs.drop k)) ∧ Hid (wr.heap[g]? = some (.cells #[.string nm, .int .i64 b, .int .i64 z, .int .i64 ex] 117)) ∧ Ext w wr) (fun i _ _ => rs.length - (intOf i).toNat)
    case atStart => exact ⟨0, .empty, 0, 0, 0, by omega, rfl, hd rfl, HB1, HX2.out⟩
    case round =>
      obtain ⟨k, nm, b, z, ex, hk, rfl, HR, HG, hx⟩ := hrel
      have HX := hd hx
      clear hx
      by_cases hlt : k < rs.length
      · obtain ⟨a, rfl, d0, d1, d2, d3⟩ := RdRec.at_ ha hlt
        have c0 := HX.out.cell d0
        have c1 := HX.out.cell d1
        have c2 := HX.out.cell d2
        have c3 := HX.out.cell d3
        rw [drop_cons hlt] at HR
        clear d0 d1 d2 d3
        generalize rs[k] = r at *
        obtain ⟨t, ht⟩ : ∃ t, (r.name.toList == name.toList) = t := ⟨_, rfl⟩
        have HR2 : Hid (bestG name (0, 0) rs = bestG name (if t then (if b = 0 then (r.sys, r.size) else if r.size < z then (r.sys, r.size) else (b, z)) else (b, z)) (rs.drop (k + 1))) := hd (by rw [HR.out, ← ht]; rfl)
        clear HR
        have HXB := hd (HX.out.alloc (.cells #[.string r.name, .int .i64 r.sys, .int .i64 r.size, .int .i64 r.extra] 117))
        have HGB := hd (blk_old (o' := .cells #[.string r.name, .int .i64 r.sys, .int .i64 r.size, .int .i64 r.extra] 117) HG.out)
        have hgl : g < wr.heap.size := (Array.getElem?_eq_some_iff.1 HG.out).1
        have gne : ¬ (wr.heap.size = g) := by omega
        obtain ⟨g0, g1, g2, g3⟩ := blk4 HG.out
        obtain ⟨p0, p1, p2, p3⟩ := blk4f HG.out
        have HG4 : Hid (∀ o, (((((wr.setCell ⟨g, 0, none⟩ (.string r.name)).setCell ⟨g, 1, none⟩ (.int .i64 r.sys)).setCell ⟨g, 2, none⟩ (.int .i64 r.size)).setCell ⟨g, 3, none⟩ (.int .i64 r.extra)).alloc o).heap[g]? = some (.cells #[.string r.name, .int .i64 r.sys, .int .i64 r.size, .int .i64 r.extra] 117)) := hd fun o => blk_old (blk4_set HG.out)
        have HX4 : Hid (∀ o, Ext w (((((wr.setCell ⟨g, 0, none⟩ (.string r.name)).setCell ⟨g, 1, none⟩ (.int .i64 r.sys)).setCell ⟨g, 2, none⟩ (.int .i64 r.size)).setCell ⟨g, 3, none⟩ (.int .i64 r.extra)).alloc o)) := hd fun o => Ext.alloc (Below.setCell (p := ⟨g, 3, none⟩) (Below.setCell (p := ⟨g, 2, none⟩) (Below.setCell (p := ⟨g, 1, none⟩) (Below.setCell (p := ⟨g, 0, none⟩) HX.out HGW.out _) HGW.out _) HGW.out _) HGW.out _) o
        cases t
        · go_wp2
          go_roundw
          case rel => exact ⟨k + 1, nm, b, z, ex, by omega, by go_num, hd HR2.out, HGB, HXB.out⟩
          case measure => simp [intOf]; omega
        · by_cases hb : b = 0
          · go_wp2
            go_roundw
            case rel => exact ⟨k + 1, r.name, r.sys, r.size, r.extra, by omega, by go_num, hd (by rw [HR2.out, if_pos rfl, if_pos hb]), hd (HG4.out _), HX4.out _⟩
            case measure => simp [intOf]; omega
          · by_cases hz : r.size < z
            · go_wp2
              go_roundw
              case rel => exact ⟨k + 1, r.name, r.sys, r.size, r.extra, by omega, by go_num, hd (by rw [HR2.out, if_pos rfl, if_neg hb, if_pos hz]), hd (HG4.out _), HX4.out _⟩
              case measure => simp [intOf]; omega
            · go_wp2
              go_roundw
              case rel => exact ⟨k + 1, nm, b, z, ex, by omega, by go_num, hd (by rw [HR2.out, if_pos rfl, if_neg hb, if_neg hz]), HGB, HXB.out⟩
              case measure => simp [intOf]; omega
      · obtain ⟨g0, g1, g2, g3⟩ := blk4 HG.out
        have ge : bestG name (0, 0) rs = (b, z) := by rw [HR.out, List.drop_eq_nil_of_le (by omega)]; rfl
        have GE := hd ge
        clear ge
        go_wp2
        go_quiet (fail)
        go_wp2
        go_ret2
        exact RetX.mk (by unfold smallB; rw [HS.out, GE.out]; rfl) (HX.out.drewN _)
end Go.Proofs.Ytegaablidoibdaa
