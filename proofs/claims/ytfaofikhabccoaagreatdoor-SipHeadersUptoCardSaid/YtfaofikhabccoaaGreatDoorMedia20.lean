/- A description's media, by both; conditions: none. -/
import Derived.Test.YtfaofikhabccoaaGreatDoorRefBody20
namespace Go.Proofs.YtfaofikhabccoaaGreatDoor.Jv
open Go A
set_option linter.unusedSectionVars false
set_option linter.unusedVariables false
set_option linter.unusedSimpArgs false
abbrev Ad := Int × Int × Int
abbrev Med := Int × Int × Int × Int
abbrev Ask := Int × (Int × Int × Int) × Int
abbrev zA : Ad := (0, 0, 0)
/-! ### Heads and tails -/
theorem cutPrefix_eq {s p : By} : strings_CutPrefix s p = some (if pfx s p = true then (s.drop p.length, true) else (s, false)) := by
  unfold strings_CutPrefix i_stringslite_CutPrefix
  have h : i_stringslite_HasPrefix s p = ref20_begins s p := rfl
  rw [h, begins_eq]
  simp only [Option.bind_some]
  have hp := pfx_take s p
  cases hq : pfx s p with
  | false => rfl
  | true =>
    rw [hq] at hp
    have hl : p.length ≤ s.length := by
      have := hp.symm
      simp only [Bool.and_eq_true, decide_eq_true_eq] at this
      exact this.1
    simp only [Bool.not_true, cond_false]
    rw [bif_dec (by omega), bif_dec (by omega), List.take_of_length_le (by rw [List.length_drop]; exact Nat.le_refl _)]
    rfl
/-- A line without the byte 13 at its end. -/
def tr13 (s : By) : By := if sfx s [13] = true then s.take (s.length - 1) else s
theorem tr13_len (s : By) : (tr13 s).length ≤ s.length := by
  unfold tr13
  split
  · rw [List.length_take]; omega
  · exact Nat.le_refl _
theorem sfx_pos {s : By} (h : sfx s [13] = true) : 1 ≤ s.length := by
  unfold sfx at h
  simp only [Bool.and_eq_true, decide_eq_true_eq] at h
  exact h.1
theorem trimSuffix_eq {s : By} (hs : s.length ≤ 4194304) : strings_TrimSuffix s [13] = some (tr13 s) := by
  unfold strings_TrimSuffix i_stringslite_TrimSuffix
  have h : i_stringslite_HasSuffix s [13] = ref20_ends s [13] := rfl
  rw [h, ends_eq hs (by simp)]
  simp only [Option.bind_some]
  unfold tr13
  cases hq : sfx s [13] with
  | false => rfl
  | true =>
    have := sfx_pos hq
    have e : IntKind.i64.wrap ((s.length : Int) - (([13] : By).length : Int)) = ((s.length - 1 : Nat) : Int) := by
      rw [wrap_i64 (by simp; omega) (by simp; omega)]
      simp only [List.length_cons, List.length_nil]
      omega
    simp only [cond_true]
    rw [e, bif_dec (by omega), bif_dec (by omega), Int.toNat_natCast, Nat.sub_zero]
    simp only [if_true, Option.bind_some]
/-! ### Ports -/
def tail6 (m : By) : Option By := if pfx m [97, 117, 100, 105, 111, 32] = true then some (m.drop 6) else if pfx m [118, 105, 100, 101, 111, 32] = true then some (m.drop 6) else none
def portS (s : By) : Int := if (Lib.cut s [32]).2.1 = [] then 0 else match decM 65535 (Lib.cut s [32]).1 with
  | some n => (n : Int)
  | none => 0
def portM (m : By) : Int := match tail6 m with
  | some s => portS s
  | none => 0
theorem sip_port_tail {s : By} (hs : s.length ≤ 4194304) : ((strings_Cut s [32]).bind fun (r4 : By × By × Bool) => (sip_number r4.1 65535).bind fun (r5 : Int × Bool) => bif !r5.2 then some 0 else (bif r4.2.1 == ([] : List UInt8) then some 0 else some r5.1)) = some (portS s) := by
  rw [cutK hs]
  simp only [Option.bind_some]
  have h1 := (cut_len s [32]).1
  obtain ⟨x, g1, g2⟩ := sip_num (s := (Lib.cut s [32]).1) (by omega) (m := 65535) (by omega)
  rw [show ((65535 : Int)) = ((65535 : Nat) : Int) from rfl, g1]
  simp only [Option.bind_some]
  unfold portS
  cases hd : decM 65535 (Lib.cut s [32]).1 with
  | none =>
    simp only [Option.isSome_none, Bool.not_false, cond_true]
    split <;> rfl
  | some n =>
    rw [g2 n hd]
    simp only [Option.isSome_some, Bool.not_true, cond_false]
    by_cases he : (Lib.cut s [32]).2.1 = []
    · rw [he]; rfl
    · rw [if_neg he, show ((Lib.cut s [32]).2.1 == ([] : By)) = false by simpa using he]
      rfl
theorem sip_port_eq {m : By} (hm : m.length ≤ 4194304) : sip_port m = some (portM m) := by
  unfold sip_port portM tail6
  rw [cutPrefix_eq]
  simp only [Option.bind_some]
  cases h1 : pfx m [97, 117, 100, 105, 111, 32] with
  | true =>
    rw [if_pos rfl]
    unfold sip_port_p11
    simp only [Bool.not_true, cond_false, Option.bind_some, Sum.elim_inl]
    exact sip_port_tail (by rw [List.length_drop]; omega)
  | false =>
    rw [if_neg Bool.false_ne_true]
    unfold sip_port_p11
    simp only [Bool.not_false, cond_true]
    rw [cutPrefix_eq]
    cases h2 : pfx m [118, 105, 100, 101, 111, 32] with
    | true =>
      rw [if_pos rfl]
      simp only [Option.bind_some, Bool.not_true, cond_false, Sum.elim_inl, Bool.false_eq_true, if_false, if_true]
      exact sip_port_tail (by rw [List.length_drop]; omega)
    | false => rfl
theorem pfx_app (a m p : By) : pfx (a ++ m) (a ++ p) = pfx m p := by
  unfold pfx Lib.hasPrefix
  rw [Bool.eq_iff_iff, List.isPrefixOf_iff_prefix, List.isPrefixOf_iff_prefix]
  exact List.prefix_append_right_inj a
theorem ref_port_tail {s : By} (hs : s.length ≤ 4194304) (hs8 : 0 ≤ s.length) : ((ref20_find s 32).bind fun (r3 : Int) => bif decide (r3 < 0) then some 0 else (bif r3 == IntKind.i64.wrap ((s.length : Int) - 1) then some 0 else (bif decide (0 ≤ r3) then (bif decide (r3 ≤ (s.length : Int)) then ((ref20_number (s.take (r3.toNat - 0)) 65535).bind fun (r4 : Int × Bool) => bif !r4.2 then some 0 else some r4.1) else none) else none))) = some (portS s) := by
  rw [find_eq hs]
  simp only [Option.bind_some]
  unfold portS
  rw [cut_find, cut_find2]
  by_cases h0 : 0 ≤ Lib.indexByte s 32
  · have hroom := ixb_room s 32 h0
    rw [bif_ndec (by omega), if_pos h0, if_pos h0]
    have ew : IntKind.i64.wrap ((s.length : Int) - 1) = ((s.length - 1 : Nat) : Int) := by rw [wrap_i64 (by omega) (by omega)]; omega
    rw [ew]
    by_cases hl : (Lib.indexByte s 32).toNat = s.length - 1
    · rw [show (Lib.indexByte s 32 == ((s.length - 1 : Nat) : Int)) = true by rw [beq_iff_eq]; omega, cond_true, if_pos (List.drop_eq_nil_of_le (by omega))]
    · rw [show (Lib.indexByte s 32 == ((s.length - 1 : Nat) : Int)) = false by rw [beq_eq_false_iff_ne]; omega, cond_false, if_neg (by
        intro e
        have := congrArg List.length e
        rw [List.length_drop, List.length_nil] at this
        omega), bif_dec h0, bif_dec (by omega), Nat.sub_zero]
      obtain ⟨x, g1, g2⟩ := ref_num (s := s.take (Lib.indexByte s 32).toNat) (by rw [List.length_take]; omega) (m := 65535) (by omega)
      rw [show ((65535 : Int)) = ((65535 : Nat) : Int) from rfl, g1]
      simp only [Option.bind_some]
      cases hd : decM 65535 (s.take (Lib.indexByte s 32).toNat) with
      | none => rfl
      | some n => rw [g2 n hd]; rfl
  · rw [bif_dec (by omega), if_neg h0, if_pos rfl]
theorem ref_port_eq {s : By} (hs : s.length ≤ 4194304) (hp : pfx s [109, 61] = true) : ref20_port s = some (portM (s.drop 2)) := by
  obtain ⟨m, rfl⟩ : ∃ m, s = [109, 61] ++ m := by
    have h := hp
    unfold pfx Lib.hasPrefix at h
    rw [List.isPrefixOf_iff_prefix] at h
    obtain ⟨m, hm⟩ := h
    exact ⟨m, hm.symm⟩
  have e1 : pfx ([109, 61] ++ m) [109, 61, 97, 117, 100, 105, 111, 32] = pfx m [97, 117, 100, 105, 111, 32] := pfx_app [109, 61] m [97, 117, 100, 105, 111, 32]
  have e2 : pfx ([109, 61] ++ m) [109, 61, 118, 105, 100, 101, 111, 32] = pfx m [118, 105, 100, 101, 111, 32] := pfx_app [109, 61] m [118, 105, 100, 101, 111, 32]
  have len6 : ∀ p : By, p.length = 6 → pfx m p = true → 6 ≤ m.length := fun p h6 hp => by
    rw [pfx_take] at hp
    simp only [Bool.and_eq_true, decide_eq_true_eq] at hp
    omega
  have ed : ([109, 61] ++ m).drop 2 = m := rfl
  have ed8 : ([109, 61] ++ m).drop 8 = m.drop 6 := rfl
  have hml : m.length ≤ 4194304 := by simp at hs; omega
  have tl : 6 ≤ m.length → (bif decide (8 ≤ ((([109, 61] ++ m : By)).length : Int)) then ((ref20_find ((([109, 61] ++ m : By).drop 8).take (([109, 61] ++ m : By).length - 8)) 32).bind fun (r3 : Int) => bif decide (r3 < 0) then some 0 else (bif r3 == IntKind.i64.wrap (((((([109, 61] ++ m : By)).drop 8).take (([109, 61] ++ m : By).length - 8)).length : Int) - 1) then some 0 else (bif decide (0 ≤ r3) then (bif decide (r3 ≤ ((((([109, 61] ++ m : By)).drop 8).take (([109, 61] ++ m : By).length - 8)).length : Int)) then ((ref20_number (((([109, 61] ++ m : By).drop 8).take (([109, 61] ++ m : By).length - 8)).take (r3.toNat - 0)) 65535).bind fun (r4 : Int × Bool) => bif !r4.2 then some 0 else some r4.1) else none) else none))) else none) = some (portS (m.drop 6)) := fun h6 => by
    have et : (([109, 61] ++ m : By).drop 8).take (([109, 61] ++ m : By).length - 8) = m.drop 6 := by
      rw [ed8, List.take_of_length_le (by simp)]
    rw [bif_dec (by simp; omega), et]
    exact ref_port_tail (by rw [List.length_drop]; omega) (Nat.zero_le _)
  unfold ref20_port ref20_port_p5 portM tail6
  rw [begins_eq, e1, ed]
  simp only [Option.bind_some]
  cases h1 : pfx m [97, 117, 100, 105, 111, 32] with
  | true =>
    simp only [Bool.not_true, cond_false, Option.bind_some, Sum.elim_inl, if_true]
    exact tl (len6 _ rfl h1)
  | false =>
    rw [begins_eq, e2]
    simp only [Bool.not_false, cond_true, Option.bind_some]
    cases h2 : pfx m [118, 105, 100, 101, 111, 32] with
    | true =>
      simp only [Bool.not_true, cond_false, Option.bind_some, Sum.elim_inl, if_true, Bool.false_eq_true, if_false]
      exact tl (len6 _ rfl h2)
    | false => rfl
/-! ### Addresses -/
def pre4 : By := [99, 61, 73, 78, 32, 73, 80, 52, 32]
def pre6 : By := [99, 61, 73, 78, 32, 73, 80, 54, 32]
def addrM (s : By) : Ad × Bool := if pfx s pre4 = true then ((parseM (s.drop 9)).1, (parseM (s.drop 9)).2 == 0 && (parseM (s.drop 9)).1.1 == 4)
  else if pfx s pre6 = true then ((parseM (s.drop 9)).1, (parseM (s.drop 9)).2 == 0 && (parseM (s.drop 9)).1.1 == 6)
  else (zA, false)
theorem trimPrefix_drop {s p : By} (h : pfx s p = true) : Lib.trimPrefix s p = s.drop p.length := by
  unfold Lib.trimPrefix
  have h' : Lib.hasPrefix s p = true := h
  rw [if_pos h']
theorem address_by {s : By} (hs : s.length ≤ 4194304) (F : By → Option ((Int × Int × Int) × Int)) (hF : ∀ t : By, t.length ≤ 4194304 → F t = some (parseM t)) :
    (bif Lib.hasPrefix s S4.data.toList then (F (Lib.trimPrefix s S4.data.toList)).bind fun r => some (r.1, r.2 == 0 && r.1.1 == 4)
      else bif Lib.hasPrefix s S6.data.toList then (F (Lib.trimPrefix s S6.data.toList)).bind fun r => some (r.1, r.2 == 0 && r.1.1 == 6)
      else some ((0, 0, 0), false)) = some (addrM s) := by
  rw [show S4.data.toList = pre4 from rfl, show S6.data.toList = pre6 from rfl, show Lib.hasPrefix s pre4 = pfx s pre4 from rfl, show Lib.hasPrefix s pre6 = pfx s pre6 from rfl]
  unfold addrM
  cases h4 : pfx s pre4 with
  | true =>
    rw [trimPrefix_drop h4, hF _ (by rw [List.length_drop]; omega)]
    rfl
  | false =>
    simp only [cond_false, Bool.false_eq_true, if_false]
    cases h6 : pfx s pre6 with
    | true =>
      rw [trimPrefix_drop h6, hF _ (by rw [List.length_drop]; omega)]
      rfl
    | false => rfl
theorem sip_address_eq {s : By} (hs : s.length ≤ 4194304) : sip_address s = some (addrM s) := address_by hs A.addr_Parse fun t ht => A.addr_Parse_eq ht
theorem ref20_address_eq {s : By} (hs : s.length ≤ 4194304) : ref20_address s = some (addrM s) := address_by hs A.ref02_Parse fun t ht => A.ref_Parse_eq ht
/-- What is none has no family. -/
def okA (a : Ad) : Prop := a.1 = 0 → a = zA
theorem addrM_ok {s : By} (h : (addrM s).2 = true) : okA (addrM s).1 := by
  unfold addrM at h ⊢
  split at h
  · simp only [Bool.and_eq_true, beq_iff_eq] at h
    rename_i h4
    rw [if_pos h4]
    intro e
    rw [h.2] at e
    cases e
  · split at h
    · simp only [Bool.and_eq_true, beq_iff_eq] at h
      rename_i h4 h6
      rw [if_neg h4, if_pos h6]
      intro e
      rw [h.2] at e
      cases e
    · cases h
theorem isz_eq {a : Ad} (h : okA a) : (a.1 == 0 && (a.2.1 == 0 && (a.2.2 == 0 && true))) = (a.1 == 0) := by
  cases he : (a.1 == 0) with
  | false => rfl
  | true =>
    have := h (beq_iff_eq.1 he)
    subst this
    rfl
/-! ### The lines -/
abbrev Sta := Ad × List Med
def medA (m : Med) : Ad := m.2
def setLast (l : List Med) (a : Ad) : List Med := match l.getLast? with
  | some m => if (m.2.1 == 0) = true then l.dropLast ++ [(m.1, a)] else l
  | none => l
def stepM (st : Sta) (s : By) : Sta := if pfx s [109, 61] = true then (st.1, st.2 ++ [(portM (s.drop 2), 0, 0, 0)])
  else if (addrM s).2 = true then (if st.2 = [] then ((addrM s).1, []) else (st.1, setLast st.2 (addrM s).1)) else st
def okS (st : Sta) : Prop := okA st.1 ∧ ∀ m ∈ st.2, okA m.2
theorem setLast_len (l : List Med) (a : Ad) : (setLast l a).length = l.length := by
  unfold setLast
  split
  · rename_i m hm
    split
    · have : l ≠ [] := by intro e; subst e; cases hm
      have := List.length_pos_iff.2 this
      simp
      omega
    · rfl
  · rfl
theorem stepM_ok {st : Sta} (h : okS st) (s : By) : okS (stepM st s) := by
  unfold stepM
  split
  · refine ⟨h.1, fun m hm => ?_⟩
    rcases List.mem_append.1 hm with hm | hm
    · exact h.2 m hm
    · rw [List.mem_singleton.1 hm]; exact fun _ => rfl
  · split
    · rename_i ha
      have hok := addrM_ok ha
      split
      · exact ⟨hok, fun m hm => by cases hm⟩
      · refine ⟨h.1, fun m hm => ?_⟩
        unfold setLast at hm
        split at hm
        · split at hm
          · rcases List.mem_append.1 hm with hm | hm
            · exact h.2 m ((List.dropLast_sublist _).mem hm)
            · rw [List.mem_singleton.1 hm]; exact hok
          · exact h.2 m hm
        · exact h.2 m hm
    · exact h
theorem stepM_len (st : Sta) (s : By) : (stepM st s).2.length ≤ st.2.length + 1 := by
  unfold stepM
  split
  · simp
  · split
    · split
      · simp
      · simp [setLast_len]
    · simp
/-- The lines, without 13 at their ends, but for the last one. -/
def trA : List By → List By
  | [] => []
  | [x] => [x]
  | x :: y :: r => tr13 x :: trA (y :: r)
theorem trA_len : ∀ L : List By, (trA L).length = L.length
  | [] => rfl
  | [x] => rfl
  | x :: y :: r => by simp only [trA, List.length_cons, trA_len (y :: r)]
theorem trA_get : ∀ (L : List By) (i : Nat) (h : i < L.length), (trA L)[i]? = some (if i + 1 < L.length then tr13 L[i] else L[i])
  | [], i, h => by simp at h
  | [x], i, h => by
    have : i = 0 := by simpa using h
    subst this
    rfl
  | x :: y :: r, 0, h => by simp [trA]
  | x :: y :: r, i + 1, h => by
    have h' : i < (y :: r).length := by simpa using h
    simp only [trA, List.getElem?_cons_succ]
    rw [trA_get (y :: r) i h']
    simp
def endM (body : By) : Sta := (trA (spl 10 body)).foldl stepM (zA, [])
theorem get_last {l : List Med} (h : l ≠ []) : ∃ (l' : List Med) (m : Med), l = l' ++ [m] ∧ l.getLast? = some m ∧ l.dropLast = l' := by
  refine ⟨l.dropLast, l.getLast h, (List.dropLast_concat_getLast h).symm, List.getLast?_eq_some_getLast h, rfl⟩
theorem fits32 {n : Nat} (h : n ≤ 4194306) : fits n 32 = true := by
  unfold fits
  exact decide_eq_true (by omega)
/-! ### The program's lines -/
theorem sip_line {L : List By} (hL : L.length ≤ 4194305) (hx : ∀ x ∈ L, x.length ≤ 4194304) {i : Nat} (hi : i < L.length) {st : Sta} (ho : okS st) (hn : st.2.length ≤ i) {s : By} (hs : (trA L)[i]? = some s) :
    sip_Media_p175b (L, L, (L.length : Int), (i : Int), st.1.1, st.1.2.1, st.1.2.2, st.2) = some (.inl (L, L, (L.length : Int), ((i + 1 : Nat) : Int), (stepM st s).1.1, (stepM st s).1.2.1, (stepM st s).1.2.2, (stepM st s).2)) := by
  have e1 : IntKind.i64.wrap ((i : Int) + 1) = ((i + 1 : Nat) : Int) := by rw [wrap_i64 (by omega) (by omega)]; omega
  rw [trA_get L i hi] at hs
  cases hs
  have hxi := hx _ (List.getElem_mem hi)
  have htr := tr13_len L[i]
  have hpc : ∀ a b c d e f g, sip_Media_p21295 (L, (i : Int), L[i], a, b, c, d, e, f, g) = some (L, (if i + 1 < L.length then tr13 L[i] else L[i]), a, b, c, d, e, f, g) := by
    intro a b c d e f g
    unfold sip_Media_p21295
    simp only
    rw [wrap_i64 (x := (L.length : Int) - 1) (by omega) (by omega)]
    by_cases hl : i + 1 < L.length
    · rw [bif_dec (by omega), trimSuffix_eq hxi, if_pos hl]
      rfl
    · rw [bif_ndec (by omega), if_neg hl]
  generalize hsd : (if i + 1 < L.length then tr13 L[i] else L[i]) = s at hpc
  have hsl : s.length ≤ 4194304 := by rw [← hsd]; split <;> omega
  unfold sip_Media_p175b
  simp only
  rw [bif_dec (by omega), bif_dec (by omega), Int.toNat_natCast, List.getElem?_eq_getElem hi]
  simp only [Option.bind_some]
  rw [hpc _ _ _ _ _ _ _]
  simp only [Option.bind_some]
  rw [cutPrefix_eq, e1]
  simp only [Option.bind_some]
  unfold stepM
  cases hm : pfx s [109, 61] with
  | true =>
    simp only [if_true, cond_true]
    rw [show ([109, 61] : By).length = 2 from rfl, sip_port_eq (by rw [List.length_drop]; omega)]
    simp only [Option.bind_some]
    rw [fits32 (by omega), cond_true]
  | false =>
    simp only [Bool.false_eq_true, if_false, cond_false]
    rw [sip_address_eq hsl]
    simp only [Option.bind_some]
    cases ha : (addrM s).2 with
    | false => simp only [Bool.not_false, cond_true, Bool.false_eq_true, if_false]
    | true =>
      simp only [Bool.not_true, cond_false, if_true]
      by_cases hn0 : st.2 = []
      · rw [if_pos hn0, show ((st.2.length : Int) == 0) = true by rw [hn0]; rfl, cond_true, hn0]
      · obtain ⟨l', m, hl1, hl2, hl3⟩ := get_last hn0
        have hpos := List.length_pos_iff.2 hn0
        have hlen : st.2.length = l'.length + 1 := by rw [hl1]; simp
        rw [if_neg hn0, show ((st.2.length : Int) == 0) = false by rw [beq_eq_false_iff_ne]; omega, cond_false]
        have ew : IntKind.i64.wrap ((st.2.length : Int) - 1) = ((l'.length : Nat) : Int) := by rw [wrap_i64 (by omega) (by omega)]; omega
        have hget : st.2[l'.length]? = some m := by rw [hl1]; simp
        rw [ew, bif_dec (by omega), bif_dec (by omega), Int.toNat_natCast, hget]
        simp only [Option.bind_some]
        have hmo : okA m.2 := ho.2 m (by rw [hl1]; simp)
        unfold setLast
        rw [hl2, hl3]
        simp only
        rw [isz_eq (a := m.2) hmo]
        cases hz : (m.2.1 == 0) with
        | false => simp only [Bool.false_eq_true, if_false, cond_false]
        | true =>
          simp only [if_true, cond_true]
          have hset : st.2.set l'.length (m.1, (addrM s).1.1, (addrM s).1.2.1, (addrM s).1.2.2) = l' ++ [(m.1, (addrM s).1)] := by
            rw [hl1]; simp
          rw [hset]
theorem sip_lines {L : List By} (hL : L.length ≤ 4194305) (hx : ∀ x ∈ L, x.length ≤ 4194304) : ∀ k i (st : Sta), i + k = L.length → okS st → st.2.length ≤ i →
    sip_Media_p175 (L, L, (L.length : Int), (i : Int), st.1.1, st.1.2.1, st.1.2.2, st.2) = some ((((trA L).drop i).foldl stepM st).1.1, (((trA L).drop i).foldl stepM st).1.2.1, (((trA L).drop i).foldl stepM st).1.2.2, (((trA L).drop i).foldl stepM st).2) := by
  intro k
  induction k with
  | zero =>
    intro i st h1 h2 h3
    rw [List.drop_eq_nil_of_le (by rw [trA_len]; omega)]
    unfold sip_Media_p175
    refine iter_end ?_
    unfold sip_Media_p175b
    rw [bif_ndec (by simp only; omega)]
    rfl
  | succ k ih =>
    intro i st h1 h2 h3
    have hi : i < L.length := by omega
    have hi2 : i < (trA L).length := by rw [trA_len]; exact hi
    have st1 := sip_line hL hx hi h2 h3 (List.getElem?_eq_getElem hi2)
    unfold sip_Media_p175
    rw [iter_go st1, List.drop_eq_getElem_cons hi2, List.foldl_cons]
    have := stepM_len st (trA L)[i]
    exact ih (i + 1) _ (by omega) (stepM_ok h2 _) (by omega)
/-! ### The reference's lines -/
theorem ref_line {L : List By} (hL : L.length ≤ 4194305) (hx : ∀ x ∈ L, x.length ≤ 4194304) {i : Nat} (hi : i < L.length) {st : Sta} (ho : okS st) (hn : st.2.length ≤ i) {s : By} (hs : (trA L)[i]? = some s) :
    ref20_Media_p175b (L, (i : Int), st.1.1, st.1.2.1, st.1.2.2, st.2) = some (.inl (L, ((i + 1 : Nat) : Int), (stepM st s).1.1, (stepM st s).1.2.1, (stepM st s).1.2.2, (stepM st s).2)) := by
  have e1 : IntKind.i64.wrap ((i : Int) + 1) = ((i + 1 : Nat) : Int) := by rw [wrap_i64 (by omega) (by omega)]; omega
  rw [trA_get L i hi] at hs
  cases hs
  have hxi := hx _ (List.getElem_mem hi)
  have htr := tr13_len L[i]
  have hpc : ∀ a b c d : _, ref20_Media_p10543 (L, (i : Int), L[i], a, b, c, d) = some (L, (i : Int), (if i + 1 < L.length then tr13 L[i] else L[i]), a, b, c, d) := by
    intro a b c d
    unfold ref20_Media_p10543
    simp only
    rw [wrap_i64 (x := (L.length : Int) - 1) (by omega) (by omega)]
    by_cases hl : i + 1 < L.length
    · rw [bif_dec (by omega), ends_eq hxi (by simp), if_pos hl]
      simp only [Option.bind_some]
      unfold tr13
      cases hq : sfx L[i] [13] with
      | false => rfl
      | true =>
        have := sfx_pos hq
        rw [wrap_i64 (by omega) (by omega), cond_true, bif_dec (by omega), bif_dec (by omega), if_pos rfl, show ((L[i].length : Int) - 1).toNat - 0 = L[i].length - 1 by omega]
    · rw [bif_ndec (by omega), if_neg hl]
  generalize hsd : (if i + 1 < L.length then tr13 L[i] else L[i]) = s at hpc
  have hsl : s.length ≤ 4194304 := by rw [← hsd]; split <;> omega
  unfold ref20_Media_p175b
  simp only
  rw [bif_dec (by omega), bif_dec (by omega), Int.toNat_natCast, List.getElem?_eq_getElem hi]
  simp only [Option.bind_some]
  rw [hpc _ _ _ _]
  simp only [Option.bind_some]
  rw [begins_eq, e1]
  simp only [Option.bind_some]
  unfold stepM
  cases hm : pfx s [109, 61] with
  | true =>
    simp only [if_true, cond_true]
    rw [ref_port_eq hsl hm]
    simp only [Option.bind_some]
    rw [fits32 (by omega), cond_true]
  | false =>
    simp only [Bool.false_eq_true, if_false, cond_false]
    rw [ref20_address_eq hsl]
    simp only [Option.bind_some]
    cases ha : (addrM s).2 with
    | false => simp only [Bool.not_false, cond_true, Bool.false_eq_true, if_false]
    | true =>
      simp only [Bool.not_true, cond_false, if_true]
      by_cases hn0 : st.2 = []
      · rw [if_pos hn0, show ((st.2.length : Int) == 0) = true by rw [hn0]; rfl, cond_true, hn0]
      · obtain ⟨l', m, hl1, hl2, hl3⟩ := get_last hn0
        have hpos := List.length_pos_iff.2 hn0
        have hlen : st.2.length = l'.length + 1 := by rw [hl1]; simp
        rw [if_neg hn0, show ((st.2.length : Int) == 0) = false by rw [beq_eq_false_iff_ne]; omega, cond_false]
        have ew : IntKind.i64.wrap ((st.2.length : Int) - 1) = ((l'.length : Nat) : Int) := by rw [wrap_i64 (by omega) (by omega)]; omega
        have hget : st.2[l'.length]? = some m := by rw [hl1]; simp
        rw [ew, bif_dec (by omega), bif_dec (by omega), Int.toNat_natCast, hget]
        simp only [Option.bind_some]
        unfold setLast
        rw [hl2, hl3]
        simp only
        cases hz : (m.2.1 == 0) with
        | false => simp only [Bool.false_eq_true, if_false, cond_false]
        | true =>
          simp only [if_true, cond_true]
          have hset : st.2.set l'.length (m.1, (addrM s).1.1, (addrM s).1.2.1, (addrM s).1.2.2) = l' ++ [(m.1, (addrM s).1)] := by
            rw [hl1]; simp
          rw [bif_dec (by omega), bif_dec (by omega), hset]
theorem ref_lines20 {L : List By} (hL : L.length ≤ 4194305) (hx : ∀ x ∈ L, x.length ≤ 4194304) : ∀ k i (st : Sta), i + k = L.length → okS st → st.2.length ≤ i →
    ref20_Media_p175 (L, (i : Int), st.1.1, st.1.2.1, st.1.2.2, st.2) = some ((((trA L).drop i).foldl stepM st).1.1, (((trA L).drop i).foldl stepM st).1.2.1, (((trA L).drop i).foldl stepM st).1.2.2, (((trA L).drop i).foldl stepM st).2) := by
  intro k
  induction k with
  | zero =>
    intro i st h1 h2 h3
    rw [List.drop_eq_nil_of_le (by rw [trA_len]; omega)]
    unfold ref20_Media_p175
    refine iter_end ?_
    unfold ref20_Media_p175b
    rw [bif_ndec (by simp only; omega)]
    rfl
  | succ k ih =>
    intro i st h1 h2 h3
    have hi : i < L.length := by omega
    have hi2 : i < (trA L).length := by rw [trA_len]; exact hi
    have st1 := ref_line hL hx hi h2 h3 (List.getElem?_eq_getElem hi2)
    unfold ref20_Media_p175
    rw [iter_go st1, List.drop_eq_getElem_cons hi2, List.foldl_cons]
    have := stepM_len st (trA L)[i]
    exact ih (i + 1) _ (by omega) (stepM_ok h2 _) (by omega)
end Go.Proofs.YtfaofikhabccoaaGreatDoor.Jv
