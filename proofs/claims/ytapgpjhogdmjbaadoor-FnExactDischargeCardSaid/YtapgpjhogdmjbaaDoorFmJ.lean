/-
  Chapter 22, the program: parseFrom, parse, shown. Condition: sizes up to 2^20.
-/
import Derived.Test.YtapgpjhogdmjbaaDoorFmI
namespace Go.Proofs.YtapgpjhogdmjbaaDoor
open Go.RowKit
/-- What parseFrom returns: a tree and the rest, or nothing. -/
def RetPN (w : World) : Ending → World → Prop := fun e w' => e = .returned (.tuple #[.pointer none, .string ⟨#[]⟩, .bool false]) ∧ Ext w w'
def RetPS (w : World) (f : Fm) (r : List UInt8) : Ending → World → Prop := fun e w' => ∃ v t, e = .returned (.tuple #[v, .string t, .bool true]) ∧ t.data.toList = r ∧ RdF 66 w' f v ∧ Ext w w'
def RetPF (w : World) (o : Option (Fm × List UInt8)) : Ending → World → Prop := match o with
  | none => RetPN w
  | some (f, r) => RetPS w f r
section
variable {P : Program} {g : FuncId} {args : Array Value} {w : World} {o : Option (Fm × List UInt8)}
theorem rpn (h : Calls P g args w (RetPF w o)) (e : Hid (o = none)) : Calls P g args w (RetPN w) := by have := e.out; subst this; exact h
theorem rps {f : Fm} {r : List UInt8} (h : Calls P g args w (RetPF w o)) (e : Hid (o = some (f, r))) : Calls P g args w (RetPS w f r) := by have := e.out; subst this; exact h
theorem RetPF.no {e : Ending} {w' : World} (ho : o = none) (h : RetPN w e w') : RetPF w o e w' := by subst ho; exact h
theorem RetPF.yes {e : Ending} {w' : World} {f : Fm} {r : List UInt8} (ho : o = some (f, r)) (h : RetPS w f r e w') : RetPF w o e w' := by subst ho; exact h
end
theorem str_nil {s : ByteArray} (h : s.data.toList = []) : s = ⟨#[]⟩ := list_ext (by rw [h])
theorem str_size {s : ByteArray} {l : List UInt8} (h : s.data.toList = l) : s.size = l.length := by rw [← h]; simp
theorem str_ne {s : ByteArray} (h : 0 < s.size) : (s.toList == ([] : List UInt8)) = false ∧ s.toList.isEmpty = false ∧ s.toList ≠ [] := by
  have e : s.toList = s.data.toList := Lib.toList_data s
  have h1 : s.toList ≠ [] := by
    rw [e]; intro h2
    have := str_size h2
    rw [List.length_nil] at this; omega
  refine ⟨?_, ?_, h1⟩
  · cases hs : s.toList with
    | nil => exact absurd hs h1
    | cons a l => rfl
  · cases hs : s.toList with
    | nil => exact absurd hs h1
    | cons a l => rfl
set_option maxRecDepth 100000 in
set_option maxHeartbeats 800000 in
theorem pf_nil (w : World) : Calls Tryd.prog 39 #[.string ⟨#[]⟩] w (RetPN w) := by
  go_enter Tryd.func39, Tryd.ntmps39
  go_wp2
  go_ret3
  exact ⟨rfl, Ext.refl _⟩
set_option maxRecDepth 100000 in
set_option maxHeartbeats 800000 in
theorem pf_leaf (s t : ByteArray) (c : UInt8) (w : World) (h0 : 0 < s.size) (hc : s[0] = c) (ht : s.extract 1 s.size = t) (hl : isLf c = true) : Calls Tryd.prog 39 #[.string s] w (RetPS w (.leaf c) t.data.toList) := by
  obtain ⟨n1, n2, n3⟩ := str_ne h0
  have hcn : s[0].toNat = c.toNat := by rw [hc]
  have HLT : Hid (c.toNat < 128) := hd (by
    rcases byte_cases c with ⟨_, h | h | h⟩ | h | h | h
    · omega
    · omega
    · omega
    · omega
    · omega
    · rw [h.1] at hl; cases hl)
  clear hc
  have key : (letB c = true) ∨ (letB c = false ∧ c.toNat = 48) ∨ (letB c = false ∧ c.toNat = 49) := by
    rcases byte_cases c with ⟨_, h | h | h⟩ | h | h | h
    · exact .inr (.inl ⟨by unfold letB; simp [h], h⟩)
    · exact .inr (.inr ⟨by unfold letB; simp [h], h⟩)
    · exact .inl (by unfold letB; simp [h])
    · rw [u8_eq h] at hl; exact absurd hl (by decide)
    · rw [u8_eq h] at hl; exact absurd hl (by decide)
    · rw [h.1] at hl; cases hl
  clear hl
  rcases key with hq | ⟨hq, h48⟩ | ⟨hq, h48⟩
  · have HQ := hd hq
    clear hq
    go_enter Tryd.func39, Tryd.ntmps39
    go_wp2_with fail
    go_quiet (fail)
    go_wp2_with fail
    refine (rt (i_isLetter c _) HQ).mono ?_
    rintro e w1 ⟨rfl, rfl⟩
    go_wp2_with fail
    refine (i_leaf c HLT.out _).mono ?_
    rintro e w1 ⟨v, rfl, hv, hx⟩
    go_wp2
    go_ret3
    exact ⟨_, _, rfl, rfl, hv, (ext_drewN _ _).trans hx⟩
  · have HQ := hd hq
    have HI : Hid (∀ w, Calls Tryd.prog 48 #[.int .u8 48] w (Ret w (.bool false))) := hd fun w => by have := rt (i_isLetter c w) HQ; rw [h48] at this; exact this
    have HL : Hid (∀ w, Calls Tryd.prog 49 #[.int .u8 48] w (RetF w (.leaf c))) := hd fun w => by have := i_leaf c HLT.out w; rw [h48] at this; exact this
    rw [h48] at hcn
    clear hq h48
    go_enter Tryd.func39, Tryd.ntmps39
    go_wp2_with fail
    go_quiet (fail)
    go_wp2_with fail
    refine (HI.out _).mono ?_
    rintro e w1 ⟨rfl, rfl⟩
    go_wp2_with fail
    refine (HL.out _).mono ?_
    rintro e w1 ⟨v, rfl, hv, hx⟩
    go_wp2
    go_ret3
    exact ⟨_, _, rfl, rfl, hv, (ext_drewN _ _).trans hx⟩
  · have HQ := hd hq
    have HI : Hid (∀ w, Calls Tryd.prog 48 #[.int .u8 49] w (Ret w (.bool false))) := hd fun w => by have := rt (i_isLetter c w) HQ; rw [h48] at this; exact this
    have HL : Hid (∀ w, Calls Tryd.prog 49 #[.int .u8 49] w (RetF w (.leaf c))) := hd fun w => by have := i_leaf c HLT.out w; rw [h48] at this; exact this
    rw [h48] at hcn
    clear hq h48
    go_enter Tryd.func39, Tryd.ntmps39
    go_wp2_with fail
    go_quiet (fail)
    go_wp2_with fail
    refine (HI.out _).mono ?_
    rintro e w1 ⟨rfl, rfl⟩
    go_wp2_with fail
    refine (HL.out _).mono ?_
    rintro e w1 ⟨v, rfl, hv, hx⟩
    go_wp2
    go_ret3
    exact ⟨_, _, rfl, rfl, hv, (ext_drewN _ _).trans hx⟩
theorem letB_no {n : Nat} {c : UInt8} (h : c.toNat = n) (hn : n < 97 ∨ 102 < n) : letB c = false := by
  unfold letB
  rw [h]
  rcases hn with hn | hn
  · rw [decide_eq_false (by omega), Bool.false_and]
  · rw [decide_eq_false (p := n ≤ 102) (by omega), Bool.and_false]
set_option maxRecDepth 100000 in
set_option maxHeartbeats 800000 in
theorem pf_bad (s : ByteArray) (c : UInt8) (w : World) (h0 : 0 < s.size) (hc : s[0] = c) (hl : isLf c = false) (h1 : c.toNat ≠ 126) (h2 : c.toNat ≠ 40) : Calls Tryd.prog 39 #[.string s] w (RetPN w) := by
  obtain ⟨n1, n2, n3⟩ := str_ne h0
  have hcn : s[0].toNat = c.toNat := by rw [hc]
  clear hc
  have key : letB c = false ∧ c.toNat ≠ 48 ∧ c.toNat ≠ 49 := by
    rcases byte_cases c with ⟨h, _⟩ | h | h | h
    · rw [h] at hl; cases hl
    · omega
    · omega
    · refine ⟨?_, h.2.1, h.2.2.1⟩
      rcases h.2.2.2.1 with h | h
      · exact letB_no rfl (.inl h)
      · exact letB_no rfl (.inr h)
  obtain ⟨hq, k1, k2⟩ := key
  have HQ := hd hq
  have g1 : ((c.toNat : Int) == 48) = false := by simp; omega
  have g2 : ((c.toNat : Int) == 49) = false := by simp; omega
  have g3 : ((c.toNat : Int) == 126) = false := by simp; omega
  have g4 : ((c.toNat : Int) != 40) = true := by simp; omega
  clear hq hl h1 h2 k1 k2
  go_enter Tryd.func39, Tryd.ntmps39
  go_wp2_with fail
  go_quiet (fail)
  go_wp2_with fail
  refine (rt (i_isLetter c _) HQ).mono ?_
  rintro e w1 ⟨rfl, rfl⟩
  go_wp2
  go_ret3
  exact ⟨rfl, ext_drewN _ _⟩
set_option maxRecDepth 100000 in
set_option maxHeartbeats 800000 in
theorem pf_neg (s t : ByteArray) (c : UInt8) (w : World) (hs : s.size ≤ 1048576) (h0 : 0 < s.size) (hc : s[0] = c) (ht : s.extract 1 s.size = t) (h1 : c.toNat = 126) (htl : t.size ≤ s.size) (HR : Hid (∀ w, Calls Tryd.prog 39 #[.string t] w (RetPF w (pL t.data.toList)))) :
    Calls Tryd.prog 39 #[.string s] w (RetPF w (pL (126 :: t.data.toList))) := by
  obtain ⟨n1, n2, n3⟩ := str_ne h0
  have hcn : s[0].toNat = 126 := by rw [hc, h1]
  have HQ := hd (letB_no h1 (.inr (by omega)))
  have HI : Hid (∀ w, Calls Tryd.prog 48 #[.int .u8 126] w (Ret w (.bool false))) := hd fun w => by have := rt (i_isLetter c w) HQ; rw [h1] at this; exact this
  clear hc h1
  cases hp : pL t.data.toList with
  | none =>
    have HP := hd hp
    have HG : Hid (pL (126 :: t.data.toList) = none) := hd (by rw [pL_neg, hp])
    clear hp
    go_enter Tryd.func39, Tryd.ntmps39
    go_wp2_with fail
    go_quiet (fail)
    go_wp2_with fail
    refine (HI.out _).mono ?_
    rintro e w1 ⟨rfl, rfl⟩
    go_wp2_with fail
    refine (rpn (HR.out _) HP).mono ?_
    rintro e w1 ⟨rfl, hx⟩
    go_wp2
    go_ret3
    exact RetPF.no HG.out ⟨rfl, (ext_drewN _ _).trans hx⟩
  | some q =>
    obtain ⟨a, r⟩ := q
    have HP := hd hp
    have HG : Hid (pL (126 :: t.data.toList) = some (.neg a, r)) := hd (by rw [pL_neg, hp])
    have hta : (txt a).length ≤ 1048576 := by
      have := congrArg List.length (pL_iff.1 hp).1
      rw [len_list, List.length_append] at this
      omega
    clear hp
    go_enter Tryd.func39, Tryd.ntmps39
    go_wp2_with fail
    go_quiet (fail)
    go_wp2_with fail
    refine (HI.out _).mono ?_
    rintro e w1 ⟨rfl, rfl⟩
    go_wp2_with fail
    refine (rps (HR.out _) HP).mono ?_
    rintro e w1 ⟨v, u, rfl, hu, hv, hx⟩
    have HU := hd hu
    clear hu
    go_wp2_with fail
    refine (i_not a v _ hv hta).mono ?_
    rintro e w2 ⟨v2, rfl, hv2, hx2⟩
    go_wp2
    go_ret3
    exact RetPF.yes HG.out ⟨_, _, rfl, HU.out, hv2, ((ext_drewN _ _).trans hx).trans hx2⟩
set_option maxRecDepth 100000 in
set_option maxHeartbeats 1600000 in
theorem pf_open (s t : ByteArray) (c : UInt8) (w : World) (hs : s.size ≤ 1048576) (h0 : 0 < s.size) (hc : s[0] = c) (ht : s.extract 1 s.size = t) (h1 : c.toNat = 40) (htl : t.size ≤ s.size) (HRec : Hid (∀ (u : ByteArray) (w : World), u.size ≤ t.size → Calls Tryd.prog 39 #[.string u] w (RetPF w (pL u.data.toList)))) :
    Calls Tryd.prog 39 #[.string s] w (RetPF w (pB t.data.toList)) := by
  obtain ⟨n1, n2, n3⟩ := str_ne h0
  have hcn : s[0].toNat = 40 := by rw [hc, h1]
  have HQ := hd (letB_no h1 (.inl (by omega)))
  have HI : Hid (∀ w, Calls Tryd.prog 48 #[.int .u8 40] w (Ret w (.bool false))) := hd fun w => by have := rt (i_isLetter c w) HQ; rw [h1] at this; exact this
  clear hc h1
  cases hp : pL t.data.toList with
  | none =>
    have HP := hd hp
    have HG : Hid (pB t.data.toList = none) := hd (by unfold pB; rw [hp])
    clear hp
    go_enter Tryd.func39, Tryd.ntmps39
    go_wp2_with fail
    go_quiet (fail)
    go_wp2_with fail
    refine (HI.out _).mono ?_
    rintro e w1 ⟨rfl, rfl⟩
    go_wp2_with fail
    refine (rpn (HRec.out t _ (Nat.le_refl _)) HP).mono ?_
    rintro e w1 ⟨rfl, hx⟩
    go_wp2
    go_ret3
    exact RetPF.no HG.out ⟨rfl, (ext_drewN _ _).trans hx⟩
  | some q =>
    obtain ⟨a, r⟩ := q
    have HP := hd hp
    have hta : (txt a).length + r.length = t.size := by
      have := congrArg List.length (pL_iff.1 hp).1
      rw [len_list, List.length_append] at this
      omega
    have hta1 := txt_pos a
    cases r with
    | nil =>
      have HG : Hid (pB t.data.toList = none) := hd (by unfold pB; rw [hp])
      clear hp
      go_enter Tryd.func39, Tryd.ntmps39
      go_wp2_with fail
      go_quiet (fail)
      go_wp2_with fail
      refine (HI.out _).mono ?_
      rintro e w1 ⟨rfl, rfl⟩
      go_wp2_with fail
      refine (rps (HRec.out t _ (Nat.le_refl _)) HP).mono ?_
      rintro e w1 ⟨v, u, rfl, hu, hv, hx⟩
      obtain rfl := str_nil hu
      clear hu
      go_wp2
      go_ret3
      exact RetPF.no HG.out ⟨rfl, (ext_drewN _ _).trans hx⟩
    | cons o r1 =>
      have HG : Hid (pB t.data.toList = if isOp o then match pL r1 with
        | none => none
        | some (_, []) => none
        | some (b, e :: r2) => if e = 41 then some (.bin o a b, r2) else none
        else none) := hd (by unfold pB; rw [hp]; rfl)
      clear hp
      go_enter Tryd.func39, Tryd.ntmps39
      go_wp2_with fail
      go_quiet (fail)
      go_wp2_with fail
      refine (HI.out _).mono ?_
      rintro e w1 ⟨rfl, rfl⟩
      go_wp2_with fail
      refine (rps (HRec.out t _ (Nat.le_refl _)) HP).mono ?_
      rintro e w1 ⟨v, u, rfl, hu, hv, hx⟩
      have hus := hd (str_size hu)
      have hu0 : 0 < u.size := by rw [hus.out]; simp
      obtain ⟨m1, m2, m3⟩ := str_ne hu0
      have hx1 : u.extract 0 1 = ⟨#[o]⟩ := list_ext (by rw [extract_list, hu]; rfl)
      have HO := hd (isOp_contains o)
      have hgo : u[0].toNat = o.toNat := by rw [show u[0] = o from get_of_list (l := []) (r := r1) (by rw [hu]; rfl) hu0]
      obtain ⟨t2, ht2⟩ : ∃ t2, u.extract 1 u.size = t2 := ⟨_, rfl⟩
      have HT2 : Hid (t2.data.toList = r1) := hd (by rw [← ht2, extract_list, ← len_list u, List.take_of_length_le (Nat.le_refl _), hu]; rfl)
      have ht2s : t2.size ≤ r1.length := Nat.le_of_eq (str_size HT2.out)
      have hus1 : 1 ≤ u.size := hu0
      have hta' : (txt a).length + (r1.length + 1) ≤ t.size := Nat.le_of_eq hta
      clear hta
      have HU := hd hu
      have HV := hd hv
      have HX := hd ((ext_drewN w nq).trans hx)
      clear hu hv hx
      rcases op_cases o with ⟨ho, -⟩ | ⟨ho, -⟩
      · rw [ho] at HO
        rw [if_pos ho] at HG
        cases hp2 : pL r1 with
        | none =>
          have HG2 : Hid (pB t.data.toList = none) := hd (by rw [HG.out, hp2])
          have HP2 : Hid (pL t2.data.toList = none) := hd (by rw [HT2.out, hp2])
          clear hp2 HG
          go_wp2_with fail
          refine (rt (c_strings_Contains ⟨#[38, 124, 62]⟩ o _) HO).mono ?_
          rintro e w2 ⟨rfl, rfl⟩
          go_wp2_with fail
          refine (rpn (HRec.out t2 _ (by omega)) HP2).mono ?_
          rintro e w2 ⟨rfl, hx2⟩
          go_wp2
          go_ret3
          exact RetPF.no HG2.out ⟨rfl, HX.out.trans hx2⟩
        | some q2 =>
          obtain ⟨b, r2⟩ := q2
          have HP2 : Hid (pL t2.data.toList = some (b, r2)) := hd (by rw [HT2.out, hp2])
          have htb : (txt b).length + r2.length ≤ r1.length := by
            have := congrArg List.length (pL_iff.1 hp2).1
            rw [List.length_append] at this
            omega
          cases r2 with
          | nil =>
            have HG2 : Hid (pB t.data.toList = none) := hd (by rw [HG.out, hp2])
            clear hp2 HG
            go_wp2_with fail
            refine (rt (c_strings_Contains ⟨#[38, 124, 62]⟩ o _) HO).mono ?_
            rintro e w2 ⟨rfl, rfl⟩
            go_wp2_with fail
            refine (rps (HRec.out t2 _ (by omega)) HP2).mono ?_
            rintro e w2 ⟨v2, u2, rfl, hu2, hv2, hx2⟩
            obtain rfl := str_nil hu2
            clear hu2
            go_wp2
            go_ret3
            exact RetPF.no HG2.out ⟨rfl, HX.out.trans hx2⟩
          | cons d r3 =>
            have HG2 : Hid (pB t.data.toList = if d = 41 then some (.bin o a b, r3) else none) := hd (by rw [HG.out, hp2])
            clear hp2 HG
            go_wp2_with fail
            refine (rt (c_strings_Contains ⟨#[38, 124, 62]⟩ o _) HO).mono ?_
            rintro e w2 ⟨rfl, rfl⟩
            go_wp2_with fail
            refine (rps (HRec.out t2 _ (by omega)) HP2).mono ?_
            rintro e w2 ⟨v2, u2, rfl, hu2, hv2, hx2⟩
            have hus2 := hd (str_size hu2)
            have hu20 : 0 < u2.size := by rw [hus2.out]; simp
            obtain ⟨o1, o2, o3⟩ := str_ne hu20
            have hgd : u2[0].toNat = d.toNat := by rw [show u2[0] = d from get_of_list (l := []) (r := r3) (by rw [hu2]; rfl) hu20]
            obtain ⟨t3, ht3⟩ : ∃ t3, u2.extract 1 u2.size = t3 := ⟨_, rfl⟩
            have HT3 : Hid (t3.data.toList = r3) := hd (by rw [← ht3, extract_list, ← len_list u2, List.take_of_length_le (Nat.le_refl _), hu2]; rfl)
            have HV1 := hd (HV.out.ext hx2)
            have HV2 := hd hv2
            have HX2 := hd (HX.out.trans hx2)
            have hus21 : (1 : Int) ≤ (u2.size : Int) := by omega
            clear hu2 hv2 hx2
            by_cases hd41 : d.toNat = 41
            · have HG3 : Hid (pB t.data.toList = some (.bin o a b, r3)) := hd (by rw [HG2.out, if_pos (show d = 41 from u8_eq hd41)])
              rw [hd41] at hgd
              go_wp2_with fail
              have hla : (txt a).length ≤ 1048576 := by omega
              have hlb : (txt b).length ≤ 1048576 := by omega
              go_region_law ((go_simp; go_at_call 28; refine (i_join o ho a b v v2 _ (HV1.out.ext ((Ext.refl _).drew)) (HV2.out.ext ((Ext.refl _).drew)) hla hlb).mono ?_; rintro e w3 ⟨v3, rfl, hv3, hx3⟩))
              all_goals
                go_wp2
                go_ret3
                exact RetPF.yes HG3.out ⟨_, _, rfl, HT3.out, hv3, (HX2.out.trans ((Ext.refl _).drew)).trans hx3⟩
            · have HG3 : Hid (pB t.data.toList = none) := hd (by rw [HG2.out, if_neg (fun h => hd41 (by rw [h]; rfl))])
              have g6 : ((d.toNat : Int) != 41) = true := by simp; omega
              clear hd41
              go_wp2
              go_ret3
              exact RetPF.no HG3.out ⟨rfl, HX2.out⟩
      · rw [ho] at HO
        rw [if_neg (by rw [ho]; decide)] at HG
        go_wp2_with fail
        refine (rt (c_strings_Contains ⟨#[38, 124, 62]⟩ o _) HO).mono ?_
        rintro e w2 ⟨rfl, rfl⟩
        go_wp2
        go_ret3
        exact RetPF.no HG.out ⟨rfl, HX.out⟩
theorem i_parseFrom : ∀ (n : Nat) (s : ByteArray) (w : World), s.size ≤ n → n ≤ 1048576 → Calls Tryd.prog 39 #[.string s] w (RetPF w (pL s.data.toList)) := by
  intro n
  induction n with
  | zero =>
    intro s w hn _
    obtain rfl : s = ⟨#[]⟩ := str_nil (List.eq_nil_of_length_eq_zero (by rw [len_list]; omega))
    exact pf_nil w
  | succ n ih =>
    intro s w hn hb
    rcases Nat.eq_zero_or_pos s.size with h0 | h0
    · obtain rfl : s = ⟨#[]⟩ := str_nil (List.eq_nil_of_length_eq_zero (by rw [len_list]; omega))
      exact pf_nil w
    · have hd0 := drop_get h0
      rw [List.drop_zero] at hd0
      have ht : (s.extract 1 s.size).data.toList = s.data.toList.drop 1 := by rw [extract_list, ← len_list s, List.take_of_length_le (Nat.le_refl _)]
      have hts : (s.extract 1 s.size).size = s.size - 1 := by rw [str_size ht, List.length_drop, len_list]
      have hl : s.data.toList = s[0] :: (s.extract 1 s.size).data.toList := by rw [ht]; exact hd0
      rw [hl]
      rcases byte_cases s[0] with ⟨h, _⟩ | h | h | h
      · rw [pL_leaf h]
        exact pf_leaf s _ s[0] w h0 rfl rfl h
      · rw [show s[0] = 126 from u8_eq h]
        exact pf_neg s _ s[0] w (by omega) h0 rfl rfl h (by omega) (hd fun w => ih _ w (by omega) (by omega))
      · rw [show s[0] = 40 from u8_eq h, pL_open]
        exact pf_open s _ s[0] w (by omega) h0 rfl rfl h (by omega) (hd fun u w hu => ih u w (by omega) (by omega))
      · rw [pL_bad h.1 (fun e => h.2.2.2.2.1 (by rw [e]; rfl)) (fun e => h.2.2.2.2.2 (by rw [e]; rfl))]
        exact pf_bad s s[0] w h0 rfl h.1 h.2.2.2.2.1 h.2.2.2.2.2
/-- What parse returns. -/
def RetP (w : World) (o : Option Fm) : Ending → World → Prop := match o with
  | none => fun e w' => e = .returned (.tuple #[.pointer none, .bool false]) ∧ Ext w w'
  | some f => fun e w' => ∃ v, e = .returned (.tuple #[v, .bool true]) ∧ RdF 66 w' f v ∧ Ext w w'
theorem RetP.no {e : Ending} {w w' : World} {o : Option Fm} (ho : o = none) (h : e = .returned (.tuple #[.pointer none, .bool false]) ∧ Ext w w') : RetP w o e w' := by subst ho; exact h
theorem RetP.yes {e : Ending} {w w' : World} {o : Option Fm} {f : Fm} (ho : o = some f) (h : ∃ v, e = .returned (.tuple #[v, .bool true]) ∧ RdF 66 w' f v ∧ Ext w w') : RetP w o e w' := by subst ho; exact h
theorem rp_no {P : Program} {g : FuncId} {args : Array Value} {w : World} {o : Option Fm} (h : Calls P g args w (RetP w o)) (e : Hid (o = none)) : Calls P g args w (fun e w' => e = .returned (.tuple #[.pointer none, .bool false]) ∧ Ext w w') := by have := e.out; subst this; exact h
theorem rp_yes {P : Program} {g : FuncId} {args : Array Value} {w : World} {o : Option Fm} {f : Fm} (h : Calls P g args w (RetP w o)) (e : Hid (o = some f)) : Calls P g args w (fun e w' => ∃ v, e = .returned (.tuple #[v, .bool true]) ∧ RdF 66 w' f v ∧ Ext w w') := by have := e.out; subst this; exact h
set_option maxRecDepth 100000 in
set_option maxHeartbeats 1600000 in
theorem i_parse (s : ByteArray) (w : World) : Calls Tryd.prog 23 #[.string s] w (RetP w (goodF s)) := by
  by_cases h80 : s.size ≤ 80
  · have HG : Hid (goodF s = match pL s.data.toList with | some (f, []) => some f | _ => none) := hd (by unfold goodF; rw [if_pos h80]; rfl)
    cases hp : pL s.data.toList with
    | none =>
      have HP := hd hp
      have HG2 : Hid (goodF s = none) := hd (by rw [HG.out, hp])
      clear hp
      go_enter Tryd.func23, Tryd.ntmps23
      go_wp2_with fail
      refine (rpn (i_parseFrom _ s _ (Nat.le_refl _) (by omega)) HP).mono ?_
      rintro e w1 ⟨rfl, hx⟩
      go_wp2
      go_ret2
      exact RetP.no HG2.out ⟨rfl, hx⟩
    | some q =>
      obtain ⟨f, r⟩ := q
      have HP := hd hp
      cases r with
      | nil =>
        have HG2 : Hid (goodF s = some f) := hd (by rw [HG.out, hp])
        clear hp
        go_enter Tryd.func23, Tryd.ntmps23
        go_wp2_with fail
        refine (rps (i_parseFrom _ s _ (Nat.le_refl _) (by omega)) HP).mono ?_
        rintro e w1 ⟨v, u, rfl, hu, hv, hx⟩
        obtain rfl := str_nil hu
        clear hu
        go_wp2
        go_ret2
        exact RetP.yes HG2.out ⟨_, rfl, hv, hx⟩
      | cons c r =>
        have HG2 : Hid (goodF s = none) := hd (by rw [HG.out, hp])
        clear hp
        go_enter Tryd.func23, Tryd.ntmps23
        go_wp2_with fail
        refine (rps (i_parseFrom _ s _ (Nat.le_refl _) (by omega)) HP).mono ?_
        rintro e w1 ⟨v, u, rfl, hu, hv, hx⟩
        obtain ⟨m1, m2, m3⟩ := str_ne (s := u) (by rw [str_size hu]; simp)
        clear hu
        go_wp2
        go_ret2
        exact RetP.no HG2.out ⟨rfl, hx⟩
  · have HG : Hid (goodF s = none) := hd (by unfold goodF; rw [if_neg h80])
    go_enter Tryd.func23, Tryd.ntmps23
    go_wp2
    go_ret2
    exact RetP.no HG.out ⟨rfl, Ext.refl _⟩
end Go.Proofs.YtapgpjhogdmjbaaDoor
