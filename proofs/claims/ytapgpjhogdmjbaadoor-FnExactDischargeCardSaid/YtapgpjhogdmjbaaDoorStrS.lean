/-
  Slices of strings: the words, the laws' helpers on them, append. Conditions: sizes up to 2^20.
-/
import Derived.Test.YtapgpjhogdmjbaaDoorMarkT
import Derived.Test.YtapgpjhogdmjbaaDoorApp2
import Derived.Sort.OwnSorted
import Derived.Lib.OwnBridge
namespace Go.Proofs.YtapgpjhogdmjbaaDoor
open Go.RowKit Go.Sort
/-- Names as lists of bytes. -/
def strs (xs : List (List UInt8)) : List Value := xs.map encStr
@[simp] theorem length_strs (xs : List (List UInt8)) : (strs xs).length = xs.length := by simp [strs]
theorem strs_get {xs : List (List UInt8)} {k : Nat} (h : k < xs.length) : (strs xs)[k]? = some (.string ⟨xs[k].toArray⟩) := by simp [strs, h]
theorem enc_of (s : ByteArray) : encStr s.data.toList = .string s := by
  obtain ⟨⟨l⟩⟩ := s
  rfl
def Rd_StringS (w : World) (v : Value) (xs : List (List UInt8)) : Prop := Rd w 1 v xs.length (strs xs)
def Own_StringS (w : World) (lo hi : Nat) (v : Value) (xs : List (List UInt8)) : Prop := Own w lo 9 1 v xs.length (strs xs) ∧ (∀ b, v.ownBlock = some b → b < hi)
def Bd_StringS (xs : List (List UInt8)) : Prop := xs.length ≤ 1048576
section
variable {w w' : World} {lo hi : Nat} {v : Value} {xs : List (List UInt8)}
theorem Rd_StringS.ext (h : Rd_StringS w v xs) (he : Ext w w') : Rd_StringS w' v xs := Rd.ext h he
theorem Rd_StringS.form (h : Rd_StringS w v xs) : ∃ A c, v = .slice A xs.length c ∧ xs.length ≤ c ∧ c ≤ maxLen ∧ Hid (Rd_StringS w (.slice A xs.length c) xs) := by
  have h' := h
  obtain ⟨hl, A, c, hv, h1, h2, _⟩ := h'
  subst hv
  exact ⟨A, c, rfl, h1, h2, hd h⟩
theorem Rd_StringS.at_ {A : Option Addr} {n c : Nat} (h : Hid (Rd_StringS w (.slice A n c) xs)) {k : Nat} (hk : k < xs.length) : ∃ a, A = some a ∧ w.cell? (a.add k) = some (.string ⟨xs[k].toArray⟩) := by
  obtain ⟨hl, A', c', hv, h1, h2, hc⟩ := h.out
  obtain ⟨a, ha, hcell⟩ := hc k _ (strs_get hk)
  injection hv with hA _ _
  exact ⟨a, hA.trans ha, hcell⟩
theorem Own_StringS.ext (h : Own_StringS w lo hi v xs) (he : Ext w w') : Own_StringS w' lo hi v xs := ⟨own_ext h.1 he, h.2⟩
theorem Own_StringS.rd (h : Own_StringS w lo hi v xs) : Rd_StringS w v xs := own_rd h.1
theorem Own_StringS.touch {lo' hi' : Nat} (h : Own_StringS w lo hi v xs) (ht : Touch lo' hi' w w') (hd : hi ≤ lo' ∨ hi' ≤ lo) : Own_StringS w' lo hi v xs :=
  ⟨own_touch h.1 ht fun b hb => by have := h.2 b hb; have := (own_blocks h.1 b hb).1; omega, h.2⟩
end
set_option maxRecDepth 100000 in
set_option maxHeartbeats 800000 in
theorem u_eq_StringS (xs : List (List UInt8)) (v v' : Value) (w : World) (h : Rd_StringS w v xs) (h' : Rd_StringS w v' xs) (hl : Bd_StringS xs) : Calls Tryd.prog 11 #[v, v'] w (RetX w (.bool true)) := by
  obtain ⟨A, c, rfl, h1, h2, ha⟩ := h.form
  obtain ⟨A', c', rfl, h1', h2', ha'⟩ := h'.form
  clear h h'
  unfold Bd_StringS at hl
  go_enter Tryd.func11, Tryd.ntmps11
  go_wp2
  go_loopw [5] (fun i wr => ∃ k m : Nat, k ≤ xs.length ∧ i = .int .i64 k ∧ wr = w.drewN m) (fun i _ => xs.length - (intOf i).toNat)
  case atStart => exact ⟨0, 0, by omega, rfl, rfl⟩
  case round =>
    obtain ⟨k, m, hk, rfl, rfl⟩ := hrel
    by_cases hlt : k < xs.length
    · obtain ⟨a, rfl, hc⟩ := Rd_StringS.at_ ha hlt
      obtain ⟨a', rfl, hc'⟩ := Rd_StringS.at_ ha' hlt
      generalize (⟨xs[k].toArray⟩ : ByteArray) = s at *
      have he : (s.toList == s.toList) = true := by simp
      generalize s.toList = t at *
      go_wp2_with fail
      go_quiet (fail)
      go_wp2
      go_roundw
      case rel => exact ⟨k + 1, _, by omega, by go_num, rfl⟩
      case measure => simp [intOf]; omega
    · go_wp2
      go_ret
      exact RetX.mk rfl (ext_drewN _ _)
def mkS : Int → Nat → List (List UInt8)
  | _, 0 => []
  | k0, n + 1 => (markT k0).data.toList :: mkS (k0 + 1) n
@[simp] theorem length_mkS : ∀ (n : Nat) (k0 : Int), (mkS k0 n).length = n
  | 0, _ => rfl
  | n + 1, k0 => by simp [mkS, length_mkS n]
theorem mkS_get : ∀ (n : Nat) (k0 : Int) (j : Nat) (h : j < (mkS k0 n).length), (mkS k0 n)[j] = (markT (k0 + j)).data.toList
  | 0, _, j, h => by simp at h
  | n + 1, k0, 0, _ => by simp [mkS]
  | n + 1, k0, j + 1, h => by
    have := mkS_get n (k0 + 1) j (by simpa using h)
    simp only [mkS, List.getElem_cons_succ, this]
    rw [show k0 + 1 + (j : Int) = k0 + ((j + 1 : Nat) : Int) from by omega]
def Mk_StringS (w : World) (v : Value) (xs : List (List UInt8)) (k0 : Int) : Prop := Rd_StringS w v (mkS k0 xs.length)
def len_StringS (xs : List (List UInt8)) : Int := xs.length
theorem Mk_StringS.ext {w w' : World} {v : Value} {xs : List (List UInt8)} {k0 : Int} (h : Mk_StringS w v xs k0) (he : Ext w w') : Mk_StringS w' v xs k0 := Rd_StringS.ext h he
theorem len_StringS_bd {xs : List (List UInt8)} (b : Bd_StringS xs) : 0 ≤ len_StringS xs ∧ len_StringS xs ≤ 4194304 := by
  unfold Bd_StringS at b
  unfold len_StringS
  omega
set_option maxRecDepth 100000 in
set_option maxHeartbeats 3200000 in
theorem l_markStringS (xs : List (List UInt8)) (v : Value) (k0 : Int) (w : World) (lo : Nat) (h : Own w lo 9 1 v xs.length (strs xs)) (hl : xs.length ≤ 1048576) (hk0 : 0 ≤ k0) (hk1 : k0 ≤ 1000000000) (hi : Nat) (hhi : ∀ b, v.ownBlock = some b → b < hi) :
    Calls Tryd.prog 12 #[v, .int .i64 k0] w fun e w' => e = .returned (.int .i64 (k0 + xs.length)) ∧ Own w' lo 9 1 v xs.length (strs (mkS k0 xs.length)) ∧ Touch lo hi w w' := by
  rcases own_form h with ⟨rfl, hn, _⟩ | ⟨g, cap, rfl, hb, hg, hnc, hcm⟩
  · have hx : xs = [] := List.eq_nil_of_length_eq_zero hn
    subst hx
    clear h hn
    go_enter Tryd.func12, Tryd.ntmps12
    go_wp2
    refine wp_loop_rounds 1 ?_; rw [rounds_succ]; go_wp2
    go_ret
    exact ⟨by simp, own_nil _ _ _ _, Touch.refl _ _ _⟩
  · have hgh := hhi g rfl
    clear hhi
    have HF : Hid ((strs xs).length = xs.length) := hd (length_strs xs)
    generalize strs xs = Z at *
    generalize xs.length = n at *
    have HMF : Hid ((strs (mkS k0 n)).length = n) := hd (by simp)
    have HMG : Hid (∀ k, k < n → (strs (mkS k0 n))[k]? = some (.string (markT (k0 + k)))) := hd fun k hk => by
      have h1 := strs_get (xs := mkS k0 n) (k := k) (by simpa using hk)
      rw [h1, mkS_get]
    generalize strs (mkS k0 n) = X at *
    have HO0 := hd h
    clear h
    have HGB := hd hb
    have HGH := hd hgh
    clear hb hgh
    go_enter Tryd.func12, Tryd.ntmps12
    go_wp2
    go_loopw [5, 1] (fun i m wr => ∃ k : Nat, k ≤ n ∧ i = .int .i64 k ∧ m = .int .i64 (k0 + k) ∧ Own wr lo 9 1 (.slice (some ⟨g, 0, none⟩) n cap) n (X.take k ++ Z.drop k) ∧ Touch lo hi w wr) (fun i _ _ => n - (intOf i).toNat)
    case atStart => exact ⟨0, by omega, rfl, by simp, by simpa using HO0.out, Touch.refl _ _ _⟩
    case round =>
      clear HO0
      obtain ⟨k, hk, rfl, rfl, ho, hx⟩ := hrel
      by_cases hlt : k < n
      · have HO := hd ho
        have HX := hd hx
        clear ho hx
        obtain ⟨tx, htx⟩ : ∃ tx, markT (k0 + k) = tx := ⟨_, rfl⟩
        have HT : Hid (Value.string (markT (k0 + k)) = .string tx) := hd (by rw [htx])
        have HG := hd (HMG.out k hlt)
        rw [htx] at HG
        clear htx
        go_wp2_with fail
        refine (rvz (l_markText _ _ (by omega)) HT).mono ?_
        rintro e w2 ⟨rfl, hx2⟩
        have O2 := hd (own_ext HO.out hx2)
        have X2 := hd (HX.out.trans (Touch.of_ext hx2))
        clear hx2
        obtain ⟨⟨u0, s0⟩, f0, st0⟩ := own_store O2.out (k := k) hlt
        go_wp2
        go_roundw
        case rel => exact ⟨k + 1, by omega, by go_num, by go_num, by rw [← splice_set HG.out (by rw [HMF.out, HF.out])]; exact st0.out _, X2.out.setCell HGB.out HGH.out _⟩
        case measure => simp [intOf]; omega
      · go_wp2
        go_ret
        obtain rfl : k = n := by omega
        rw [List.take_of_length_le (by rw [HMF.out]; exact Nat.le_refl _), List.drop_eq_nil_of_le (by rw [HF.out]; exact Nat.le_refl _), List.append_nil] at ho
        exact ⟨rfl, ho, hx⟩
theorem u_mark_StringS (xs : List (List UInt8)) (v : Value) (k0 : Int) (w : World) (lo hi : Nat) (h : Own_StringS w lo hi v xs) (_hh : hi ≤ w.heap.size) (b : Bd_StringS xs) (hk0 : 0 ≤ k0) (hk1 : k0 ≤ 1000000000) :
    Calls Tryd.prog 12 #[v, .int .i64 k0] w (fun e w' => e = .returned (.int .i64 (k0 + len_StringS xs)) ∧ Mk_StringS w' v xs k0 ∧ Touch lo hi w w') := by
  refine (l_markStringS xs v k0 w lo h.1 b hk0 hk1 hi h.2).mono ?_
  rintro e w' ⟨rfl, ho, ht⟩
  refine ⟨rfl, ?_, ht⟩
  have := own_rd ho
  unfold Mk_StringS Rd_StringS
  rw [length_mkS]
  exact this
section
variable {ops : Array Oper} {rest : List Oper} {o : Oper} {a : Act} {Q : Exit → Act → World → Prop}
theorem info_string : (Tryd.prog.info? 9).map (fun i => (i.zero, i.size, i.bytes)) = some (some (.string .empty), 1, 16) := by kernel_rfl
/-- append(v, s), strings. -/
theorem appS (w : World) {nb : Nat} {v : Value} {xs : List (List UInt8)} {base : Nat} (hown : Own w base 9 1 v xs.length (strs xs)) (hgd : o.guard = none) (s x : Operand)
    (ho : o.op = .call { callee := .builtin .append, args := #[s, x], argTypes := #[22, 22] })
    (u : ByteArray) (hs : a.eval s = v) (hx : a.eval x = .slice (some ⟨nb, 0, none⟩) 1 1) (hnb : w.heap.size = nb) (hn : xs.length ≤ 1073741824) (hbase : base ≤ w.heap.size)
    (h : ∀ v' w', Own w' base 9 1 v' (xs ++ [u.data.toList]).length (strs (xs ++ [u.data.toList])) → (w.alloc (.cells #[.string u] 9)).grownBy w' v.ownBlock → (v'.ownBlock = v.ownBlock ∨ v'.ownBlock = some (w.heap.size + 1)) → wpList Tryd.prog ops Q rest (a.put o.dst v') w') :
    wpList Tryd.prog ops Q (o :: rest) a (w.alloc (.cells #[.string u] 9)) := by
  subst hnb
  refine wpList_app1 w hgd s x 22 ho 9 Tryd.underlying22 info_string (by decide) rfl base v xs.length (strs xs) hs hown (.string u) hx rfl hn hbase fun v' w' k1 k2 k3 => h v' w' ?_ k2 k3
  have e : strs (xs ++ [u.data.toList]) = strs xs ++ [.string u] := by
    unfold strs
    rw [List.map_append, List.map_singleton, enc_of]
  rw [e, List.length_append]
  exact k1
end
end Go.Proofs.YtapgpjhogdmjbaaDoor
