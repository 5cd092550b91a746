/-
  FollowsFrom and CounterOf, the program's side. Condition: at most 2^20 given texts.
-/
import Derived.Test.YtmfgcpeddfbngaaFmH
import Derived.Test.YtmfgcpeddfbngaaFmL
import Derived.Test.YtmfgcpeddfbngaaC1
import Derived.Laws.EntriesVeiled
namespace Go.Proofs.Ytmfgcpeddfbngaa
open Go.RowKit Go.Sort
/-! ### Plain words -/
def okT (x : Bs) : Bool := isF ⟨x.toArray⟩
def fmOf (x : Bs) : Fm := (goodF ⟨x.toArray⟩).getD (.leaf 48)
def valS (b : Nat) (x : Bs) : Bool := valF b (fmOf x)
theorem okT_of {x : Bs} (h : okT x = true) : goodF ⟨x.toArray⟩ = some (fmOf x) ∧ x = txt (fmOf x) ∧ WfF (fmOf x) = true ∧ (txt (fmOf x)).length ≤ 80 := by
  unfold okT isF at h
  obtain ⟨f, hf⟩ := Option.isSome_iff_exists.1 h
  have e : fmOf x = f := by unfold fmOf; rw [hf]; rfl
  obtain ⟨h1, h2, h3⟩ := goodF_iff.1 hf
  have h2 : x = txt f := h2
  rw [e]
  refine ⟨hf, h2, h3, ?_⟩
  rw [← h2]
  simpa [ByteArray.size] using h1
def givenB (xs : List Bs) : Bool := decide (xs.length ≤ 6) && xs.all okT
/-- A sequent of a left side and a formula holds for bits. -/
def holdsB (b : Nat) (L : List Bs) (s : Bs) : Bool := L.any (fun x => !valS b x) || valS b s
/-- The first number from k on, of n, for which p is false, or -1. -/
def firstF (p : Nat → Bool) : Nat → Nat → Int
  | 0, _ => -1
  | n + 1, k => if p k then firstF p n (k + 1) else k
def cntV (L : List Bs) (s : Bs) : Int := firstF (fun b => holdsB b L s) 64 0
theorem firstF_bd (p : Nat → Bool) : ∀ n k, -1 ≤ firstF p n k ∧ firstF p n k ≤ k + n
  | 0, k => by unfold firstF; omega
  | n + 1, k => by
    have := firstF_bd p n (k + 1)
    unfold firstF
    split <;> omega
theorem cntV_bd (L : List Bs) (s : Bs) : -1 ≤ cntV L s ∧ cntV L s ≤ 64 := by have := firstF_bd (fun b => holdsB b L s) 64 0; unfold cntV; omega
theorem cntV_congr {L L' : List Bs} (s : Bs) (h : ∀ x, x ∈ L ↔ x ∈ L') : cntV L s = cntV L' s := by
  have e : ∀ b, holdsB b L s = holdsB b L' s := fun b => by
    unfold holdsB
    congr 1
    rw [Bool.eq_iff_iff, List.any_eq_true, List.any_eq_true]
    exact ⟨fun ⟨x, hx, hv⟩ => ⟨x, (h x).1 hx, hv⟩, fun ⟨x, hx, hv⟩ => ⟨x, (h x).2 hx, hv⟩⟩
  unfold cntV
  rw [show (fun b => holdsB b L s) = fun b => holdsB b L' s from funext e]
theorem cell_box {w : World} {b : Nat} {x : Value} {e : TypeId} (h : w.heap[b]? = some (.cells #[x] e)) : w.cell? ⟨b, 0, none⟩ = some x := by simp [World.cell?, h]
section
variable {w : World} {b : Nat} {x y u v : Value} {e : TypeId}
theorem blk2fS (h : w.heap[b]? = some (.cells #[x, y] e)) : w.frozen? ⟨b, 0, none⟩ = false ∧ w.frozen? ⟨b, 1, none⟩ = false := by simp [World.frozen?, h]
theorem blk2setS (h : w.heap[b]? = some (.cells #[x, y] e)) : ((w.setCell ⟨b, 0, none⟩ u).setCell ⟨b, 1, none⟩ v).heap[b]? = some (.cells #[u, v] e) := by simp [World.setCell, Array.getElem?_modify, h]
theorem blkltS {o : Obj} (h : w.heap[b]? = some o) : b < w.heap.size := (Array.getElem?_eq_some_iff.1 h).1
theorem blkoldS {o o' : Obj} (h : w.heap[b]? = some o) : (w.alloc o').heap[b]? = some o := (Below.heap_alloc w o' b (Array.getElem?_eq_some_iff.1 h).1).trans h
end
def askB (xs : List Bs) (s : ByteArray) : Bool := givenB xs && isF s
def followV (xs : List Bs) (s : ByteArray) : Bool := if askB xs s then decide (cntV xs s.data.toList < 0) else false
def counterB (xs : List Bs) (s : ByteArray) : Bool := askB xs s && decide (0 ≤ cntV xs s.data.toList)
def counterN (xs : List Bs) (s : ByteArray) : Int := if counterB xs s then cntV xs s.data.toList else 0
theorem okT_list {s : ByteArray} : okT s.data.toList = isF s := by unfold okT; congr 1
/-- A call returns a sequent with a left side and one formula. -/
def RetSq (w : World) (L : List Bs) (s : Bs) : Ending → World → Prop := fun e w' => ∃ lv rv, e = .returned (.agg #[lv, rv]) ∧ OwnS w' w.heap.size lv L ∧ OwnS w' w.heap.size rv [s] ∧ Ext w w'
/-! ### The walks -/
theorem i_fregeOk1 (s : ByteArray) (w : World) : Calls Try.prog 120 #[.string s] w (RetX w (.bool (!isF s))) := by
  go_enter Try.func120, Try.ntmps120
  go_wp2_with fail
  refine (i_IsFormula _ _).mono ?_
  rintro e w1 ⟨rfl, hx⟩
  go_wp2
  go_ret
  exact RetX.mk rfl hx
theorem enters_fregeOk1 : Enters 120 := fun args w => by kernel_rfl
theorem any_not (xs : List Bs) : (!(xs.any fun x => !okT x)) = xs.all okT := by
  induction xs with
  | nil => rfl
  | cons x r ih => rw [List.any_cons, List.all_cons, ← ih]; cases okT x <;> simp
set_option maxHeartbeats 800000 in
theorem i_fregeOk (xs : List Bs) (v : Value) (w : World) (h : Rd_StringS w v xs) (hl : xs.length ≤ 1048576) : Calls Try.prog 89 #[v, .slice none 0 0] w (RetX w (.bool (givenB xs))) := by
  have HR := hd h
  obtain ⟨A, c, rfl, h1, h2, -⟩ := h.form
  clear h
  have HP : Hid (AnsF 120 #[] (fun x => !okT x) xs w) := hd fun x _ w' _ => i_fregeOk1 ⟨x.toArray⟩ w'
  by_cases h6 : xs.length ≤ 6
  · have HG : Hid (givenB xs = xs.all okT) := hd (by unfold givenB; rw [decide_eq_true h6, Bool.true_and])
    have HN := hd (any_not xs)
    go_enter Try.func89, Try.ntmps89
    go_wp2_with fail
    refine (slices_ContainsFuncF xs _ 120 #[] (fun x => !okT x) _ HR.out (by omega) enters_fregeOk1 HP).mono ?_
    rintro e w1 ⟨rfl, hx⟩
    go_wp2
    go_ret
    exact RetX.mk (by rw [HG.out, ← HN.out]; rfl) hx
  · have HG : Hid (givenB xs = false) := hd (by unfold givenB; rw [decide_eq_false h6, Bool.false_and])
    go_enter Try.func89, Try.ntmps89
    go_wp2
    go_ret
    exact RetX.mk (by rw [HG.out]; rfl) (Ext.refl _)
theorem i_givenOk (xs : List Bs) (v : Value) (w : World) (h : Rd_StringS w v xs) (hl : xs.length ≤ 1048576) : Calls Try.prog 70 #[v] w (RetX w (.bool (givenB xs))) := by
  go_enter Try.func70, Try.ntmps70
  go_wp2_with fail
  refine (i_fregeOk xs v _ h hl).mono ?_
  rintro e w1 ⟨rfl, hx⟩
  go_wp2
  go_ret
  exact RetX.mk rfl hx
/-- Strictly ascending, all of them formulas, at most 12. -/
theorem asc_get {L : List Bs} (h : Asc L) {k : Nat} (hk : k + 1 < L.length) : befB (L[k]'(by omega)) L[k + 1] = true := (List.pairwise_iff_getElem.1 h) k (k + 1) (by omega) hk (by omega)
set_option maxRecDepth 100000 in
set_option maxHeartbeats 1600000 in
theorem i_sideOk (L : List Bs) (v : Value) (w : World) (h : Rd_StringS w v L) (hl : L.length ≤ 12) (ha : Hid (Asc L)) (hok : Hid (∀ x ∈ L, okT x = true)) : Calls Try.prog 91 #[v] w (RetX w (.bool true)) := by
  obtain ⟨A, c, rfl, h1, h2, hr⟩ := h.form
  clear h
  go_enter Try.func91, Try.ntmps91
  go_wp2
  go_loopw [7, 3, 4] (fun i _ _ wr => ∃ k : Nat, k ≤ L.length ∧ i = .int .i64 (k : Int) ∧ Ext w wr) (fun i _ _ _ => L.length - (intOf i).toNat)
  case atStart => exact ⟨0, by omega, rfl, Ext.refl _⟩
  case round =>
    obtain ⟨k, hk, rfl, hx⟩ := hrel
    have HX := hd hx
    clear hx
    by_cases hlt : k < L.length
    · obtain ⟨a, rfl, hc0⟩ := Rd_StringS.at_ hr hlt
      have hc := HX.out.cell hc0
      clear hc0
      have HO := hd (hok.out _ (List.getElem_mem hlt))
      rcases Nat.eq_zero_or_pos k with rfl | hpos
      · rw [Addr.add_zero'] at hc
        generalize L[0] = y at *
        go_wp2_with fail
        refine (rtx (i_IsFormula ⟨y.toArray⟩ _) HO).mono ?_
        rintro e w1 ⟨rfl, hx1⟩
        go_wp2
        go_roundw
        case rel => exact ⟨1, by omega, by go_num, HX.out.trans hx1⟩
        case measure => simp [intOf]; omega
      · obtain ⟨a', ha', hp0⟩ := Rd_StringS.at_ hr (k := k - 1) (by omega)
        cases ha'
        have HPC := hd hp0
        have HB : Hid (befB (L[k - 1]'(by omega)) L[k] = true) := hd (by
          have := asc_get ha.out (k := k - 1) (by omega)
          simpa only [Nat.sub_add_cancel hpos] using this)
        have hcm : ¬ 0 ≤ cmpL (L[k - 1]'(by omega)) L[k] := by
          have := cmpL_ge (L[k - 1]'(by omega)) L[k]
          rw [HB.out] at this
          simpa using this
        clear hp0
        generalize L[k] = y at *
        generalize L[k - 1]'(by omega) = p at *
        generalize hz : cmpL p y = z at *
        have HZ := hd (congrArg (Value.int .i64) hz)
        have e4 : (0 : Int) ≤ (k : Int) - 1 := by omega
        have e5 : (k : Int) - 1 < (L.length : Int) := by omega
        clear hz
        go_wp2_with fail
        refine (rtx (i_IsFormula ⟨y.toArray⟩ _) HO).mono ?_
        rintro e w1 ⟨rfl, hx1⟩
        have HX1 := hd (HX.out.trans hx1)
        have hp := HX1.out.cell HPC.out
        clear hx1
        go_wp2_with fail
        refine (rvz (i_compareFormulasX p y _) HZ).mono ?_
        rintro e w2 ⟨rfl, hx2⟩
        go_wp2
        go_roundw
        case rel => exact ⟨k + 1, by omega, by go_num, HX1.out.trans hx2⟩
        case measure => simp [intOf]; omega
    · have hl' : (L.length : Int) ≤ 12 := by omega
      go_wp2
      go_ret
      exact RetX.mk rfl HX.out
theorem i_IsSequent (L R : List Bs) (lv rv : Value) (w : World) (h : Rd_StringS w lv L) (hl : L.length ≤ 12) (ha : Hid (Asc L)) (hok : Hid (∀ x ∈ L, okT x = true)) (h' : Rd_StringS w rv R) (hl' : R.length ≤ 12) (ha' : Hid (Asc R)) (hok' : Hid (∀ x ∈ R, okT x = true)) :
    Calls Try.prog 73 #[.agg #[lv, rv]] w (RetX w (.bool true)) := by
  have HL := hd h
  have HR := hd h'
  obtain ⟨A, c, rfl, -⟩ := h.form
  obtain ⟨A', c', rfl, -⟩ := h'.form
  clear h h'
  have X0 : Hid (Ext w (w.alloc (.cells #[.slice A L.length c, .slice A' R.length c'] 73))) := hd (Ext.new _ _)
  have HB := hd (heap_alloc_new w (.cells #[.slice A L.length c, .slice A' R.length c'] 73))
  go_enter Try.func73, Try.ntmps73
  go_wp2_with fail
  refine (i_sideOk L _ _ (HL.out.ext X0.out) hl ha hok).mono ?_
  rintro e w1 ⟨rfl, hx⟩
  obtain ⟨k0, k1⟩ := blk2S (hx.heap HB.out)
  have X1 := hd (X0.out.trans hx)
  clear hx
  go_wp2_with fail
  refine (i_sideOk R _ _ (HR.out.ext X1.out) hl' ha' hok').mono ?_
  rintro e w2 ⟨rfl, hx2⟩
  go_wp2
  go_ret
  exact RetX.mk rfl (X1.out.trans hx2)
theorem i_seqHolds1 (x : Bs) (hok : okT x = true) (b : Nat) (hb : b < 64) (bx : Nat) (w : World) (hc : w.heap[bx]? = some (.cells #[.int .i64 b] 3 (0, 0))) : Calls Try.prog 124 #[.string ⟨x.toArray⟩, .pointer (some ⟨bx, 0, none⟩)] w (RetX w (.bool (valS b x))) := by
  obtain ⟨hg, hx, hw, hl⟩ := okT_of hok
  have HG := hd hg
  have HW := hd hw
  have HV : Hid (valS b x = valF b (fmOf x)) := hd rfl
  have k0 := cell_box hc
  have HC := hd hc
  clear hg hx hw hl hok
  go_enter Try.func124, Try.ntmps124
  go_wp2_with fail
  refine (rp_yes (i_parse ⟨x.toArray⟩ _) HG).mono ?_
  rintro e w1 ⟨v, rfl, hv, hx1⟩
  have k1 := cell_box (hx1.heap HC.out)
  have X1 := hd hx1
  clear hx1
  go_wp2_with fail
  refine (i_value b hb _ (fmOf x) HW.out v hv).mono ?_
  rintro e w2 ⟨rfl, rfl⟩
  go_wp2
  go_ret
  exact RetX.mk (by rw [HV.out]; rfl) X1.out
theorem enters_seqHolds1 : Enters 124 := fun args w => by kernel_rfl
theorem i_seqHolds2 (x : Bs) (hok : okT x = true) (b : Nat) (hb : b < 64) (bx fx : Nat) (w : World) (hc : w.heap[bx]? = some (.cells #[.int .i64 b] 3 (0, 0))) (tf : TypeId) (hf : w.heap[fx]? = some (.cells #[.func (.func 124) #[] #[.pointer (some ⟨bx, 0, none⟩)]] tf (0, 0))) : Calls Try.prog 126 #[.string ⟨x.toArray⟩, .pointer (some ⟨fx, 0, none⟩)] w (RetX w (.bool (!valS b x))) := by
  have k0 := cell_box hf
  have HE : ∀ (args : Array Value) (w : World), (callFunc 124 args).run Try.prog w = .ok (.enter 124 args) w := enters_seqHolds1
  go_enter Try.func126, Try.ntmps126
  go_wp2_with fail
  refine (i_seqHolds1 x hok b hb bx _ hc).mono ?_
  rintro e w1 ⟨rfl, hx1⟩
  go_wp2
  go_ret
  exact RetX.mk rfl hx1
theorem enters_seqHolds2 : Enters 126 := fun args w => by kernel_rfl
set_option maxHeartbeats 1600000 in
theorem i_seqHolds (L : List Bs) (s : Bs) (lv rv : Value) (b : Nat) (hb : b < 64) (w : World) (h : Rd_StringS w lv L) (hl : L.length ≤ 12) (hok : Hid (∀ x ∈ L, okT x = true)) (h' : Rd_StringS w rv [s]) (hs : okT s = true) :
    Calls Try.prog 94 #[.agg #[lv, rv], .int .i64 b] w (RetX w (.bool (holdsB b L s))) := by
  have HL := hd h
  have HR := hd h'
  have HS := hd hs
  obtain ⟨A, c, rfl, -⟩ := h.form
  obtain ⟨A', c', rfl, -⟩ := h'.form
  clear h h' hs
  have hl1 : [s].length = 1 := rfl
  rw [hl1] at HR ⊢
  clear hl1
  obtain ⟨w3, hw3⟩ : ∃ w3 : World, w3 = (((w.alloc (.cells #[.slice A L.length c, .slice A' 1 c'] 73)).alloc (.cells #[.int .i64 b] 3)).alloc (.cells #[.func (.func 124) #[] #[.pointer (some ⟨w.heap.size + 1, 0, none⟩)]] 27)) := ⟨_, rfl⟩
  have X3 : Hid (Ext w w3) := hd (by rw [hw3]; exact ((Ext.new _ _).alloc _).alloc _)
  have HF : Hid (w3.heap[w.heap.size + 1 + 1]? = some (.cells #[.func (.func 124) #[] #[.pointer (some ⟨w.heap.size + 1, 0, none⟩)]] 27 (0, 0))) := hd (by
    rw [hw3]; have := heap_alloc_new ((w.alloc (.cells #[.slice A L.length c, .slice A' 1 c'] 73)).alloc (.cells #[.int .i64 b] 3)) (.cells #[.func (.func 124) #[] #[.pointer (some ⟨w.heap.size + 1, 0, none⟩)]] 27); simpa using this)
  have HBt : Hid (w3.heap[w.heap.size + 1]? = some (.cells #[.int .i64 b] 3 (0, 0))) := hd (by
    rw [hw3]; exact (Ext.new _ _).heap (by have := heap_alloc_new (w.alloc (.cells #[.slice A L.length c, .slice A' 1 c'] 73)) (.cells #[.int .i64 b] 3); simpa using this))
  have HSq : Hid (w3.heap[w.heap.size]? = some (.cells #[.slice A L.length c, .slice A' 1 c'] 73 (0, 0))) := hd (by
    rw [hw3]; exact ((Ext.new _ _).alloc _).heap (heap_alloc_new w _))
  have HA2 : Hid (AnsF 126 #[.pointer (some ⟨w.heap.size + 1 + 1, 0, none⟩)] (fun x => !valS b x) L w3) := hd fun x hx w' hx' => i_seqHolds2 x (hok.out x hx) b hb _ _ w' (hx'.heap HBt.out) _ (hx'.heap HF.out)
  have HW := hd hw3
  obtain ⟨q, hq⟩ : ∃ q, (L.any fun x => !valS b x) = q := ⟨_, rfl⟩
  have HQ := hd hq
  clear hw3 hq
  obtain ⟨k0, k1⟩ := blk2S HSq.out
  have k2 := cell_box HF.out
  cases q
  · have HV : Hid (holdsB b L s = valS b s) := hd (by unfold holdsB; rw [HQ.out, Bool.false_or])
    go_enter Try.func94, Try.ntmps94
    go_wp2_with fail
    rw [← HW.out]
    refine (rtx (slices_ContainsFuncF L _ 126 _ (fun x => !valS b x) _ (HL.out.ext X3.out) (by omega) enters_seqHolds2 HA2) HQ).mono ?_
    rintro e w4 ⟨rfl, hx4⟩
    obtain ⟨m0, m1⟩ := blk2S (hx4.heap HSq.out)
    have m2 := cell_box (hx4.heap HF.out)
    have HA1 : Hid (AnsF 124 #[.pointer (some ⟨w.heap.size + 1, 0, none⟩)] (fun x => valS b x) [s] w4) := hd fun x hx w' hx' => i_seqHolds1 x (by rw [List.mem_singleton.1 hx]; exact HS.out) b hb _ w' ((hx4.trans hx').heap HBt.out)
    have X4 := hd (X3.out.trans hx4)
    clear hx4
    go_wp2_with fail
    refine (slices_ContainsFuncF [s] _ 124 _ (fun x => valS b x) _ (HR.out.ext X4.out) (by simp) enters_seqHolds1 HA1).mono ?_
    rintro e w5 ⟨rfl, hx5⟩
    go_wp2
    go_ret
    exact RetX.mk (by rw [HV.out]; simp) (X4.out.trans hx5)
  · have HV : Hid (holdsB b L s = true) := hd (by unfold holdsB; rw [HQ.out, Bool.true_or])
    go_enter Try.func94, Try.ntmps94
    go_wp2_with fail
    rw [← HW.out]
    refine (rtx (slices_ContainsFuncF L _ 126 _ (fun x => !valS b x) _ (HL.out.ext X3.out) (by omega) enters_seqHolds2 HA2) HQ).mono ?_
    rintro e w4 ⟨rfl, hx4⟩
    go_wp2
    go_ret
    exact RetX.mk (by rw [HV.out]; rfl) (X3.out.trans hx4)
theorem i_counter1 (L : List Bs) (s : Bs) (lv rv : Value) (b : Nat) (hb : b < 64) (bx : Nat) (w : World) (h : Rd_StringS w lv L) (hl : L.length ≤ 12) (hok : Hid (∀ x ∈ L, okT x = true)) (h' : Rd_StringS w rv [s]) (hs : okT s = true) (hB : w.heap[bx]? = some (.cells #[lv, rv] 73 (0, 0))) :
    Calls Try.prog 93 #[.int .i64 b, .pointer (some ⟨bx, 0, none⟩)] w (RetX w (.bool (holdsB b L s))) := by
  have HC := hd (i_seqHolds L s lv rv b hb w h hl hok h' hs)
  obtain ⟨A, c, rfl, -⟩ := h.form
  obtain ⟨A', c', rfl, -⟩ := h'.form
  obtain ⟨k0, k1⟩ := blk2S hB
  clear h h' hs hB
  go_enter Try.func93, Try.ntmps93
  go_wp2_with fail
  refine HC.out.mono ?_
  rintro e w1 ⟨rfl, hx⟩
  go_wp2
  go_ret
  exact RetX.mk rfl hx
theorem enters_counter1 : Enters 93 := fun args w => by kernel_rfl
set_option maxHeartbeats 800000 in
theorem i_firstFalse (g : FuncId) (cs : Array Value) (p : Nat → Bool) (w : World) (hg : Enters g) (hp : Hid (∀ b, b < 64 → ∀ w', Ext w w' → Calls Try.prog g (#[.int .i64 (b : Int)] ++ cs) w' (RetX w' (.bool (p b))))) :
    Calls Try.prog 92 #[.func (.func g) #[] cs] w (RetX w (.int .i64 (firstF p 64 0))) := by
  go_enter Try.func92, Try.ntmps92
  go_wp2
  go_loopw [4, 3] (fun i _ wr => ∃ k : Nat, k ≤ 64 ∧ i = .int .i64 (k : Int) ∧ Hid (firstF p 64 0 = firstF p (64 - k) k) ∧ Ext w wr) (fun i _ _ => 64 - (intOf i).toNat)
  case atStart => exact ⟨0, by omega, rfl, hd rfl, Ext.refl _⟩
  case round =>
    obtain ⟨k, hk, rfl, HR, hx⟩ := hrel
    have HX := hd hx
    clear hx
    by_cases hlt : k < 64
    · obtain ⟨q, hq⟩ : ∃ q, p k = q := ⟨_, rfl⟩
      have HQ := hd hq
      have HST : Hid (firstF p (64 - k) k = if q then firstF p (64 - (k + 1)) (k + 1) else (k : Int)) := hd (by
        rw [show 64 - k = (64 - (k + 1)) + 1 from by omega, firstF, hq])
      clear hq
      unfold Enters at hg
      go_wp2_with fail
      refine (rtx (hp.out k hlt _ HX.out) HQ).mono ?_
      rintro e w1 ⟨rfl, hx1⟩
      have HX1 := hd (HX.out.trans hx1)
      clear hx1
      cases q
      · go_wp2
        go_ret
        exact RetX.mk (by rw [HR.out, HST.out]; rfl) HX1.out
      · go_wp2
        go_roundw
        case rel => exact ⟨k + 1, by omega, by go_num, hd (by rw [HR.out, HST.out]; rfl), HX1.out⟩
        case measure => simp [intOf]; omega
    · obtain rfl : k = 64 := by omega
      have HE : Hid (firstF p 64 0 = -1) := hd (by rw [HR.out]; rfl)
      go_wp2
      go_ret
      exact RetX.mk (by rw [HE.out]; rfl) HX.out
theorem i_counter (L : List Bs) (s : Bs) (lv rv : Value) (w : World) (h : Rd_StringS w lv L) (hl : L.length ≤ 12) (hok : Hid (∀ x ∈ L, okT x = true)) (h' : Rd_StringS w rv [s]) (hs : okT s = true) :
    Calls Try.prog 74 #[.agg #[lv, rv]] w (RetX w (.int .i64 (cntV L s))) := by
  have HL := hd h
  have HR := hd h'
  have HS := hd hs
  obtain ⟨A, c, rfl, -⟩ := h.form
  obtain ⟨A', c', rfl, -⟩ := h'.form
  clear h h' hs
  have X0 : Hid (Ext w (w.alloc (.cells #[.slice A L.length c, .slice A' [s].length c'] 73))) := hd (Ext.new _ _)
  have HB := hd (heap_alloc_new w (.cells #[.slice A L.length c, .slice A' [s].length c'] 73))
  have HP : Hid (∀ b, b < 64 → ∀ w', Ext (w.alloc (.cells #[.slice A L.length c, .slice A' [s].length c'] 73)) w' → Calls Try.prog 93 (#[.int .i64 (b : Int)] ++ #[.pointer (some ⟨w.heap.size, 0, none⟩)]) w' (RetX w' (.bool (holdsB b L s)))) := hd fun b hb w' hx => i_counter1 L s _ _ b hb _ w' (HL.out.ext (X0.out.trans hx)) hl hok (HR.out.ext (X0.out.trans hx)) HS.out (hx.heap HB.out)
  go_enter Try.func74, Try.ntmps74
  go_wp2_with fail
  refine (i_firstFalse 93 _ (fun b => holdsB b L s) _ enters_counter1 HP).mono ?_
  rintro e w1 ⟨rfl, hx⟩
  go_wp2
  go_ret
  exact RetX.mk rfl (X0.out.trans hx)
set_option maxHeartbeats 1600000 in
theorem i_givenSequent (xs : List Bs) (gv : Value) (s : ByteArray) (w : World) (h : Rd_StringS w gv xs) (hl : xs.length ≤ 1048576) : Calls Try.prog 72 #[gv, .string s] w (RetSq w (sortB xs) s.data.toList) := by
  have HR := hd h
  clear h
  have X0 : Hid (Ext w (w.alloc (.cells #[.slice none 0 0, .slice none 0 0] 73))) := hd (Ext.new _ _)
  have HB := hd (heap_alloc_new w (.cells #[.slice none 0 0, .slice none 0 0] 73))
  go_enter Try.func72, Try.ntmps72
  go_wp2_with fail
  refine (i_with xs gv _ (HR.out.ext X0.out) hl).mono ?_
  rintro e w1 ⟨u, rfl, hu, hx⟩
  have HU := hd (own_rd hu)
  have hu' : Rd_StringS w1 u (sortB xs) := own_rd hu
  obtain ⟨A, c, rfl, -⟩ := hu'.form
  have B2 := hd (blkoldS (o' := .cells #[.string s] 9) (hx.heap HB.out))
  have HN := hd (heap_alloc_new w1 (.cells #[.string s] 9))
  obtain ⟨k0, k1⟩ := blk2S B2.out
  obtain ⟨f0, f1⟩ := blk2fS B2.out
  have k4 := blkltS B2.out
  have X2 := hd ((X0.out.trans hx).alloc (.cells #[.string s] 9))
  have HLT : Hid (w.heap.size < w1.heap.size) := hd (by have := hx.size; simp at this; omega)
  have HC := hd (blk2setS (u := .slice A (sortB xs).length c) (v := .slice (some ⟨w1.heap.size, 0, none⟩) 1 1) B2.out)
  have HU2 : Hid (Rd_StringS (w1.alloc (.cells #[.string s] 9)) (.slice A (sortB xs).length c) (sortB xs)) := hd (hu'.ext (Ext.new _ _))
  have OB := hd (fun g hg => (own_blocks hu g hg).1)
  have HOw := hd hu
  clear hu hu' hx HU
  have T4 := hd ((((Touch.refl w.heap.size (w.heap.size + 1) (w1.alloc (.cells #[.string s] 9))).setCell (p := ⟨w.heap.size, 0, none⟩) (Nat.le_refl _) (Nat.lt_succ_self _) (.slice A (sortB xs).length c)).setCell (p := ⟨w.heap.size, 1, none⟩) (Nat.le_refl _) (Nat.lt_succ_self _) (.slice (some ⟨w1.heap.size, 0, none⟩) 1 1)))
  have X4 := hd (Below.setCell (p := ⟨w.heap.size, 1, none⟩) (Below.setCell (p := ⟨w.heap.size, 0, none⟩) X2.out (Nat.le_refl _) (.slice A (sortB xs).length c)) (Nat.le_refl _) (.slice (some ⟨w1.heap.size, 0, none⟩) 1 1))
  go_wp2
  obtain ⟨p0, p1⟩ := blk2S HC.out
  refine bodyPost_ret (v := .agg #[.slice A (sortB xs).length c, .slice (some ⟨w1.heap.size, 0, none⟩) 1 1]) (by simp [results, Try.results72, go_sem, p0, p1]) rfl ⟨_, _, rfl, ?_, ?_, X4.out⟩
  · refine own_rebase (own_touch (own_ext HOw.out (Ext.new _ _)) T4.out fun g hg => .inr ?_) (by simp)
    have := OB.out g hg
    simpa using this
  · refine own_touch ?_ T4.out fun g hg => .inr ?_
    · have := own_lit w1 w.heap.size 9 1 #[.string s] 1 (Nat.le_of_lt HLT.out) (by unfold maxLen; omega) rfl
      obtain ⟨⟨l⟩⟩ := s
      exact this
    · have := HLT.out
      cases hg
      exact this
set_option maxHeartbeats 1600000 in
theorem i_GivenSequent (xs : List Bs) (gv : Value) (s : ByteArray) (w : World) (h : Rd_StringS w gv xs) (hl : xs.length ≤ 1048576) (q : Bool) (hq : Hid (askB xs s = q)) :
    Calls Try.prog 49 #[gv, .string s] w (fun e w' => Ext w w' ∧ ∃ A n c A' n' c', e = .returned (.tuple #[.agg #[.slice A n c, .slice A' n' c'], .bool q]) ∧ (q = true → Rd_StringS w' (.slice A n c) (sortB xs) ∧ Rd_StringS w' (.slice A' n' c') [s.data.toList])) := by
  have HR := hd h
  clear h
  have X0 : Hid (Ext w (w.alloc (.cells #[.slice none 0 0, .slice none 0 0] 73))) := hd (Ext.new _ _)
  have HB := hd (heap_alloc_new w (.cells #[.slice none 0 0, .slice none 0 0] 73))
  obtain ⟨q1, hq1⟩ : ∃ q1, givenB xs = q1 := ⟨_, rfl⟩
  obtain ⟨q2, hq2⟩ : ∃ q2, isF s = q2 := ⟨_, rfl⟩
  have HQ1 := hd hq1
  have HQ2 := hd hq2
  have HQ : Hid (q = (q1 && q2)) := hd (by rw [← hq.out]; unfold askB; rw [hq1, hq2])
  clear hq1 hq2 hq
  cases q1
  · obtain rfl : q = false := by rw [HQ.out]; rfl
    go_enter Try.func49, Try.ntmps49
    go_wp2_with fail
    refine (rtx (i_givenOk xs gv _ (HR.out.ext X0.out) hl) HQ1).mono ?_
    rintro e w1 ⟨rfl, hx⟩
    have B2 := hd (hx.heap HB.out)
    obtain ⟨k0, k1⟩ := blk2S B2.out
    obtain ⟨f0, f1⟩ := blk2fS B2.out
    have k4 := blkltS B2.out
    have HC := hd (blk2setS (u := .slice none 0 0) (v := .slice none 0 0) B2.out)
    have X4 := hd (Below.setCell (p := ⟨w.heap.size, 1, none⟩) (Below.setCell (p := ⟨w.heap.size, 0, none⟩) (X0.out.trans hx) (Nat.le_refl _) (.slice none 0 0)) (Nat.le_refl _) (.slice none 0 0))
    clear hx
    go_wp2
    obtain ⟨p0, p1⟩ := blk2S HC.out
    exact bodyPost_ret (v := .tuple #[.agg #[.slice none 0 0, .slice none 0 0], .bool false]) (by simp [results, Try.results49, go_sem, p0, p1]) rfl ⟨X4.out, _, _, _, _, _, _, rfl, fun h => by cases h⟩
  · cases q2
    · obtain rfl : q = false := by rw [HQ.out]; rfl
      go_enter Try.func49, Try.ntmps49
      go_wp2_with fail
      refine (rtx (i_givenOk xs gv _ (HR.out.ext X0.out) hl) HQ1).mono ?_
      rintro e w1 ⟨rfl, hx⟩
      have X1 := hd (X0.out.trans hx)
      have B1 := hd (hx.heap HB.out)
      clear hx
      go_wp2_with fail
      refine (rtx (i_IsFormula s _) HQ2).mono ?_
      rintro e w2 ⟨rfl, hx⟩
      have B2 := hd (hx.heap B1.out)
      obtain ⟨k0, k1⟩ := blk2S B2.out
      obtain ⟨f0, f1⟩ := blk2fS B2.out
      have k4 := blkltS B2.out
      have HC := hd (blk2setS (u := .slice none 0 0) (v := .slice none 0 0) B2.out)
      have X4 := hd (Below.setCell (p := ⟨w.heap.size, 1, none⟩) (Below.setCell (p := ⟨w.heap.size, 0, none⟩) (X1.out.trans hx) (Nat.le_refl _) (.slice none 0 0)) (Nat.le_refl _) (.slice none 0 0))
      clear hx
      go_wp2
      obtain ⟨p0, p1⟩ := blk2S HC.out
      exact bodyPost_ret (v := .tuple #[.agg #[.slice none 0 0, .slice none 0 0], .bool false]) (by simp [results, Try.results49, go_sem, p0, p1]) rfl ⟨X4.out, _, _, _, _, _, _, rfl, fun h => by cases h⟩
    · obtain rfl : q = true := by rw [HQ.out]; rfl
      go_enter Try.func49, Try.ntmps49
      go_wp2_with fail
      refine (rtx (i_givenOk xs gv _ (HR.out.ext X0.out) hl) HQ1).mono ?_
      rintro e w1 ⟨rfl, hx⟩
      have X1 := hd (X0.out.trans hx)
      have B1 := hd (hx.heap HB.out)
      clear hx
      go_wp2_with fail
      refine (rtx (i_IsFormula s _) HQ2).mono ?_
      rintro e w2 ⟨rfl, hx⟩
      have X2 := hd (X1.out.trans hx)
      have B2 := hd (hx.heap B1.out)
      clear hx
      go_wp2_with fail
      refine (i_givenSequent xs gv s _ (HR.out.ext X2.out) hl).mono ?_
      rintro e w3 ⟨lv, rv, rfl, hlv, hrv, hx⟩
      have B3 := hd (hx.heap B2.out)
      obtain ⟨k0, k1⟩ := blk2S B3.out
      obtain ⟨f0, f1⟩ := blk2fS B3.out
      have k4 := blkltS B3.out
      have HLV := hd hlv
      have HRV := hd hrv
      have hlv' : Rd_StringS w3 lv (sortB xs) := own_rd hlv
      have hrv' : Rd_StringS w3 rv [s.data.toList] := own_rd hrv
      obtain ⟨A, c, rfl, -⟩ := hlv'.form
      obtain ⟨A', c', rfl, -⟩ := hrv'.form
      have hb2 := blkltS B2.out
      have OL := hd (fun g hg => (own_blocks hlv g hg).1)
      have OR := hd (fun g hg => (own_blocks hrv g hg).1)
      have HL2 := hd hb2
      have HC := hd (blk2setS (u := .slice A (sortB xs).length c) (v := .slice A' 1 c') B3.out)
      have T4 := hd ((((Touch.refl w.heap.size (w.heap.size + 1) w3).setCell (p := ⟨w.heap.size, 0, none⟩) (Nat.le_refl _) (Nat.lt_succ_self _) (.slice A (sortB xs).length c)).setCell (p := ⟨w.heap.size, 1, none⟩) (Nat.le_refl _) (Nat.lt_succ_self _) (.slice A' 1 c')))
      have X4 := hd (Below.setCell (p := ⟨w.heap.size, 1, none⟩) (Below.setCell (p := ⟨w.heap.size, 0, none⟩) (X2.out.trans hx) (Nat.le_refl _) (.slice A (sortB xs).length c)) (Nat.le_refl _) (.slice A' 1 c'))
      clear hlv' hrv' hlv hrv hx hb2
      go_wp2
      obtain ⟨p0, p1⟩ := blk2S HC.out
      refine bodyPost_ret (v := .tuple #[.agg #[.slice A (sortB xs).length c, .slice A' 1 c'], .bool true]) (by simp [results, Try.results49, go_sem, p0, p1]) rfl ⟨X4.out, _, _, _, _, _, _, rfl, fun _ => ⟨?_, ?_⟩⟩
      · exact own_rd (own_touch HLV.out T4.out fun g hg => .inr (by have := OL.out g hg; have := HL2.out; omega))
      · exact own_rd (own_touch HRV.out T4.out fun g hg => .inr (by have := OR.out g hg; have := HL2.out; omega))
theorem i_IsValidSequent (L : List Bs) (s : Bs) (lv rv : Value) (w : World) (h : Rd_StringS w lv L) (hl : L.length ≤ 12) (ha : Hid (Asc L)) (hok : Hid (∀ x ∈ L, okT x = true)) (h' : Rd_StringS w rv [s]) (hs : Hid (okT s = true)) :
    Calls Try.prog 50 #[.agg #[lv, rv]] w (RetX w (.tuple #[.bool (decide (cntV L s < 0)), .bool true])) := by
  have HL := hd h
  have HR := hd h'
  obtain ⟨A, c, rfl, -⟩ := h.form
  obtain ⟨A', c', rfl, -⟩ := h'.form
  clear h h'
  have X0 : Hid (Ext w (w.alloc (.cells #[.slice A L.length c, .slice A' [s].length c'] 73))) := hd (Ext.new _ _)
  have HB := hd (heap_alloc_new w (.cells #[.slice A L.length c, .slice A' [s].length c'] 73))
  have HA1 : Hid (Asc [s]) := hd (by simp [Asc])
  have HO1 : Hid (∀ x ∈ [s], okT x = true) := hd fun x hx => by rw [List.mem_singleton.1 hx]; exact hs.out
  go_enter Try.func50, Try.ntmps50
  go_wp2_with fail
  refine (i_IsSequent L [s] _ _ _ (HL.out.ext X0.out) hl ha hok (HR.out.ext X0.out) (by simp) HA1 HO1).mono ?_
  rintro e w1 ⟨rfl, hx⟩
  obtain ⟨k0, k1⟩ := blk2S (hx.heap HB.out)
  have X1 := hd (X0.out.trans hx)
  clear hx
  go_wp2_with fail
  refine (i_counter L s _ _ _ (HL.out.ext X1.out) hl hok (HR.out.ext X1.out) hs.out).mono ?_
  rintro e w2 ⟨rfl, hx2⟩
  go_wp2
  go_ret2
  exact RetX.mk rfl (X1.out.trans hx2)
theorem i_CounterBits (L : List Bs) (s : Bs) (lv rv : Value) (w : World) (h : Rd_StringS w lv L) (hl : L.length ≤ 12) (ha : Hid (Asc L)) (hok : Hid (∀ x ∈ L, okT x = true)) (h' : Rd_StringS w rv [s]) (hs : Hid (okT s = true)) (q : Bool) (hq : Hid (decide (0 ≤ cntV L s) = q)) :
    Calls Try.prog 51 #[.agg #[lv, rv]] w (RetX w (.tuple #[.int .i64 (if q then cntV L s else 0), .bool q])) := by
  have HL := hd h
  have HR := hd h'
  obtain ⟨A, c, rfl, -⟩ := h.form
  obtain ⟨A', c', rfl, -⟩ := h'.form
  clear h h'
  have X0 : Hid (Ext w (w.alloc (.cells #[.slice A L.length c, .slice A' [s].length c'] 73))) := hd (Ext.new _ _)
  have HB := hd (heap_alloc_new w (.cells #[.slice A L.length c, .slice A' [s].length c'] 73))
  have HA1 : Hid (Asc [s]) := hd (by simp [Asc])
  have HO1 : Hid (∀ x ∈ [s], okT x = true) := hd fun x hx => by rw [List.mem_singleton.1 hx]; exact hs.out
  have HCV : Hid (∀ (lv rv : Value) (w : World), Rd_StringS w lv L → Rd_StringS w rv [s] → Calls Try.prog 74 #[.agg #[lv, rv]] w (RetX w (.int .i64 (cntV L s)))) := hd fun lv rv w h h' => i_counter L s lv rv w h hl hok h' hs.out
  generalize cntV L s = z at *
  cases q
  · have hz : z < 0 := by have := hq.out; simp at this; omega
    go_enter Try.func51, Try.ntmps51
    go_wp2_with fail
    refine (i_IsSequent L [s] _ _ _ (HL.out.ext X0.out) hl ha hok (HR.out.ext X0.out) (by simp) HA1 HO1).mono ?_
    rintro e w1 ⟨rfl, hx⟩
    obtain ⟨k0, k1⟩ := blk2S (hx.heap HB.out)
    have X1 := hd (X0.out.trans hx)
    clear hx
    go_wp2_with fail
    refine (HCV.out _ _ _ (HL.out.ext X1.out) (HR.out.ext X1.out)).mono ?_
    rintro e w2 ⟨rfl, hx2⟩
    go_wp2
    go_ret2
    exact RetX.mk rfl (X1.out.trans hx2)
  · have hz : ¬ z < 0 := by have := hq.out; simp at this; omega
    go_enter Try.func51, Try.ntmps51
    go_wp2_with fail
    refine (i_IsSequent L [s] _ _ _ (HL.out.ext X0.out) hl ha hok (HR.out.ext X0.out) (by simp) HA1 HO1).mono ?_
    rintro e w1 ⟨rfl, hx⟩
    have B1 := hd (hx.heap HB.out)
    obtain ⟨k0, k1⟩ := blk2S B1.out
    have X1 := hd (X0.out.trans hx)
    clear hx
    go_wp2_with fail
    refine (HCV.out _ _ _ (HL.out.ext X1.out) (HR.out.ext X1.out)).mono ?_
    rintro e w2 ⟨rfl, hx2⟩
    clear k0 k1
    obtain ⟨k0, k1⟩ := blk2S (hx2.heap B1.out)
    have X2 := hd (X1.out.trans hx2)
    clear hx2
    go_wp2_with fail
    refine (HCV.out _ _ _ (HL.out.ext X2.out) (HR.out.ext X2.out)).mono ?_
    rintro e w3 ⟨rfl, hx3⟩
    go_wp2
    go_ret2
    exact RetX.mk rfl (X2.out.trans hx3)
theorem askB_inv {xs : List Bs} {s : ByteArray} (h : askB xs s = true) : (sortB xs).length ≤ 12 ∧ Asc (sortB xs) ∧ (∀ x ∈ sortB xs, okT x = true) ∧ okT s.data.toList = true := by
  unfold askB givenB at h
  rw [Bool.and_eq_true, Bool.and_eq_true] at h
  obtain ⟨⟨h1, h2⟩, h3⟩ := h
  have h1 : xs.length ≤ 6 := by simpa using h1
  have h4 := sortB_len xs
  obtain ⟨h5, h6⟩ := sortB_spec xs
  exact ⟨by omega, h5, fun x hx => List.all_eq_true.1 h2 x ((h6 x).1 hx), by rw [okT_list]; exact h3⟩
set_option maxHeartbeats 1600000 in
theorem i_FollowsFrom (xs : List Bs) (gv : Value) (s : ByteArray) (w : World) (h : Rd_StringS w gv xs) (hl : Bd_StringS xs) (_ : I64_StringS xs) (_ : s.size ≤ 1048576) : Calls Try.prog 26 #[gv, .string s] w (RetX w (.tuple #[.bool (followV xs s), .bool (askB xs s)])) := by
  unfold Bd_StringS at hl
  obtain ⟨q, hq⟩ : ∃ q, askB xs s = q := ⟨_, rfl⟩
  have HQ := hd hq
  have HF : Hid (followV xs s = if q then decide (cntV xs s.data.toList < 0) else false) := hd (by unfold followV; rw [hq])
  have HCG : Hid (cntV (sortB xs) s.data.toList = cntV xs s.data.toList) := hd (cntV_congr _ (sortB_spec xs).2)
  cases q
  · clear hq
    go_enter Try.func26, Try.ntmps26
    go_wp2_with fail
    refine (i_GivenSequent xs gv s _ h hl false HQ).mono ?_
    rintro e w1 ⟨hx, A, n, c, A', n', c', rfl, -⟩
    go_wp2
    go_ret2
    exact RetX.mk (by rw [HF.out, HQ.out]; rfl) (hx.alloc _)
  · obtain ⟨i1, i2, i3, i4⟩ := askB_inv hq
    have I2 := hd i2
    have I3 := hd i3
    have I4 := hd i4
    clear hq i2 i3 i4
    go_enter Try.func26, Try.ntmps26
    go_wp2_with fail
    refine (i_GivenSequent xs gv s _ h hl true HQ).mono ?_
    rintro e w1 ⟨hx, A, n, c, A', n', c', rfl, hr⟩
    have HX := hd (hx.alloc (.cells #[.slice A n c, .slice A' n' c'] 73))
    have HR1 := hd ((hr rfl).1.ext (Ext.new w1 (.cells #[.slice A n c, .slice A' n' c'] 73)))
    have HR2 := hd ((hr rfl).2.ext (Ext.new w1 (.cells #[.slice A n c, .slice A' n' c'] 73)))
    clear hx hr
    go_wp2_with fail
    refine (i_IsValidSequent (sortB xs) s.data.toList _ _ _ HR1.out i1 I2 I3 HR2.out I4).mono ?_
    rintro e w2 ⟨rfl, hx2⟩
    rw [HCG.out]
    go_wp2
    go_ret2
    exact RetX.mk (by rw [HF.out, HQ.out]; rfl) (HX.out.trans hx2)
set_option maxHeartbeats 1600000 in
theorem i_CounterOf (xs : List Bs) (gv : Value) (s : ByteArray) (w : World) (h : Rd_StringS w gv xs) (hl : Bd_StringS xs) (_ : I64_StringS xs) (_ : s.size ≤ 1048576) : Calls Try.prog 28 #[gv, .string s] w (RetX w (.tuple #[.int .i64 (counterN xs s), .bool (counterB xs s)])) := by
  unfold Bd_StringS at hl
  obtain ⟨q, hq⟩ : ∃ q, askB xs s = q := ⟨_, rfl⟩
  have HQ := hd hq
  have HCG : Hid (cntV (sortB xs) s.data.toList = cntV xs s.data.toList) := hd (cntV_congr _ (sortB_spec xs).2)
  cases q
  · have HF : Hid (counterB xs s = false) := hd (by unfold counterB; rw [hq]; rfl)
    have HN : Hid (counterN xs s = 0) := hd (by unfold counterN; rw [HF.out]; rfl)
    clear hq
    go_enter Try.func28, Try.ntmps28
    go_wp2_with fail
    refine (i_GivenSequent xs gv s _ h hl false HQ).mono ?_
    rintro e w1 ⟨hx, A, n, c, A', n', c', rfl, -⟩
    go_wp2
    go_ret2
    exact RetX.mk (by rw [HF.out, HN.out]; rfl) (hx.alloc _)
  · obtain ⟨i1, i2, i3, i4⟩ := askB_inv hq
    have I2 := hd i2
    have I3 := hd i3
    have I4 := hd i4
    obtain ⟨r, hr⟩ : ∃ r, decide (0 ≤ cntV xs s.data.toList) = r := ⟨_, rfl⟩
    have HF : Hid (counterB xs s = r) := hd (by unfold counterB; rw [hq, hr]; rfl)
    have HN : Hid (counterN xs s = if r then cntV xs s.data.toList else 0) := hd (by unfold counterN; rw [HF.out])
    have HRR : Hid (decide (0 ≤ cntV (sortB xs) s.data.toList) = r) := hd (by rw [HCG.out]; exact hr)
    clear hq i2 i3 i4 hr
    cases r
    all_goals
      go_enter Try.func28, Try.ntmps28
      go_wp2_with fail
      refine (i_GivenSequent xs gv s _ h hl true HQ).mono ?_
      rintro e w1 ⟨hx, A, n, c, A', n', c', rfl, hr⟩
      have HX := hd (hx.alloc (.cells #[.slice A n c, .slice A' n' c'] 73))
      have HR1 := hd ((hr rfl).1.ext (Ext.new w1 (.cells #[.slice A n c, .slice A' n' c'] 73)))
      have HR2 := hd ((hr rfl).2.ext (Ext.new w1 (.cells #[.slice A n c, .slice A' n' c'] 73)))
      clear hx hr
      go_wp2_with fail
      refine (i_CounterBits (sortB xs) s.data.toList _ _ _ HR1.out i1 I2 I3 HR2.out I4 _ HRR).mono ?_
      rintro e w2 ⟨rfl, hx2⟩
      rw [HCG.out]
      go_wp2
      go_ret2
      exact RetX.mk (by rw [HF.out, HN.out]; rfl) (HX.out.trans hx2)
end Go.Proofs.Ytmfgcpeddfbngaa
