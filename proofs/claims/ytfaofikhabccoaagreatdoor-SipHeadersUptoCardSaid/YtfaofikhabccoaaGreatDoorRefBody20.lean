/- A message's body, by the reference; and by both; conditions: none. -/
import Derived.Test.YtfaofikhabccoaaGreatDoorBody20
namespace Go.Proofs.YtfaofikhabccoaaGreatDoor.Jv
open Go A
set_option linter.unusedSectionVars false
set_option linter.unusedVariables false
set_option linter.unusedSimpArgs false
theorem sip_Body_eq {d : By} (hd : d.length ≤ 4194304) : sip_Body d = some (bodyM d) := by
  unfold sip_Body bodyM
  have hcr : ([13, 10] : By) = crlf := rfl
  rw [hcr]
  by_cases hx : Lib.index d crlf = -1
  · rw [if_pos (.inl hx), cutC hd, cut_no hx]
    rfl
  · have hge := Lib.index_ge d crlf
    have hroom := Lib.index_room d crlf (by omega)
    have hcl : crlf.length = 2 := rfl
    rw [hcl] at hroom
    rw [cutC hd, cut_sep hx, hcl]
    simp only [Option.bind_some]
    have hf : (first d).length ≤ 4194304 := by unfold first; rw [List.length_take]; omega
    have hp : sip_Body_p23 (crlf, d.take (Lib.index d crlf).toNat, d.drop ((Lib.index d crlf).toNat + 2), true) = some (if begM d = true then .inl (crlf, d.drop ((Lib.index d crlf).toNat + 2)) else .inr ([], false)) := by
      unfold sip_Body_p23
      simp only [Bool.not_true, cond_false]
      rw [show d.take (Lib.index d crlf).toNat = first d from rfl, hasPrefix_eq]
      simp only [Option.bind_some]
      rw [hasSuffix_eq hf (by simp)]
      simp only [Option.bind_some]
      unfold begM
      cases pfx (first d) [83, 73, 80, 47, 50, 46, 48, 32] <;> cases sfx (first d) [32, 83, 73, 80, 47, 50, 46, 48] <;> rfl
    rw [hp]
    cases hb : begM d with
    | false =>
      rw [if_neg Bool.false_ne_true, if_pos (Or.inr rfl)]
      rfl
    | true =>
      rw [if_pos rfl, if_neg (fun e => e.elim hx (fun e => by cases e))]
      simp only [Option.bind_some, Sum.elim_inl]
      obtain ⟨m, hm⟩ : ∃ m, d.length = m + 1 := ⟨d.length - 1, by omega⟩
      have := sip_loop m (d.drop ((Lib.index d crlf).toNat + 2)) 0 none none (by rw [List.length_drop]; omega) (by omega) (by omega) (fun _ h => by cases h) (fun _ h => by cases h)
      rw [hm, show ((0 : Int)) = ((0 : Nat) : Int) from rfl, this]
      rfl
/-! ### The reference -/
theorem cut_find (s : By) (c : UInt8) : (Lib.cut s [c]).1 = if 0 ≤ Lib.indexByte s c then s.take (Lib.indexByte s c).toNat else s := by
  unfold Lib.cut
  rw [Lib.index_one]
  split <;> rfl
theorem cut_find2 (s : By) (c : UInt8) : (Lib.cut s [c]).2.1 = if 0 ≤ Lib.indexByte s c then s.drop ((Lib.indexByte s c).toNat + 1) else [] := by
  unfold Lib.cut
  rw [Lib.index_one]
  split <;> rfl
theorem ixb_room (s : By) (c : UInt8) (h : 0 ≤ Lib.indexByte s c) : (Lib.indexByte s c).toNat < s.length := by
  rcases ixb s c with ⟨h3, _⟩ | ⟨j, h3, h4, _⟩
  · omega
  · rw [h3]; exact h4
theorem ixb_in (s : By) (c : UInt8) : 0 ≤ Lib.indexByte s c ↔ c ∈ s := by
  rcases ixb s c with ⟨h3, h4⟩ | ⟨j, h3, h4, h5, h6⟩
  · rw [h3]
    exact ⟨fun h => by omega, fun h => absurd h h4⟩
  · rw [h3]
    exact ⟨fun _ => by rw [h5]; simp, fun _ => by omega⟩
theorem fits_len {n : Nat} (h : n ≤ 4194304) : fits n 1 = true := by
  unfold fits
  exact decide_eq_true (by omega)
theorem ref_fin2 {K : By} {hk : Bool} {k : Option By} (hK : K = k.getD []) (hhk : hk = k.isSome) (ho : okO k) {rest : By} (hr : rest.length ≤ 4194304) {γ : Type} (F : By × Bool → γ) :
    ((ref20_find K 59).bind fun (r5 : Int) => bif decide (r5 ≥ 0) then (bif decide (0 ≤ r5) then (bif decide (r5 ≤ (K.length : Int)) then (bif !hk then some (F ([], false)) else ((ref20_trimmed (K.take (r5.toNat - 0))).bind fun (r6 : By) => (ref18_Upper r6).bind fun (r7 : By) => bif !(r7 == ([65, 80, 80, 76, 73, 67, 65, 84, 73, 79, 78, 47, 83, 68, 80] : List UInt8)) then some (F ([], false)) else (bif fits rest.length 1 then some (F (rest, true)) else none))) else none) else none)
      else (bif !hk then some (F ([], false)) else ((ref20_trimmed K).bind fun (r8 : By) => (ref18_Upper r8).bind fun (r9 : By) => bif !(r9 == ([65, 80, 80, 76, 73, 67, 65, 84, 73, 79, 78, 47, 83, 68, 80] : List UInt8)) then some (F ([], false)) else (bif fits rest.length 1 then some (F (rest, true)) else none)))) = some (F (fin2 k rest)) := by
  have hKl : K.length ≤ 4194304 := by
    subst hK
    cases k with
    | none => simp
    | some t => exact ho t rfl
  have main : ∀ P : By, P.length ≤ 4194304 → P = (Lib.cut K [59]).1 → (bif !hk then some (F ([], false)) else ((ref20_trimmed P).bind fun (r6 : By) => (ref18_Upper r6).bind fun (r7 : By) => bif !(r7 == ([65, 80, 80, 76, 73, 67, 65, 84, 73, 79, 78, 47, 83, 68, 80] : List UInt8)) then some (F ([], false)) else (bif fits rest.length 1 then some (F (rest, true)) else none))) = some (F (fin2 k rest)) := by
    intro P hP hPe
    cases k with
    | none => subst hhk; rfl
    | some t =>
      subst hhk
      rw [show K = t from hK] at hPe
      simp only [Option.isSome_some, Bool.not_true, cond_false]
      rw [ref_trim hP]
      simp only [Option.bind_some]
      have := trm_len P
      rw [upper_eq (by omega)]
      simp only [Option.bind_some]
      rw [fits_len hr, hPe]
      simp only [fin2, Option.getD_some]
      change (bif !((trm (Lib.cut t [59]).1).map upB == wSdp) then _ else _) = _
      cases ((trm (Lib.cut t [59]).1).map upB == wSdp) <;> rfl
  rw [find_eq hKl]
  simp only [Option.bind_some]
  by_cases h0 : 0 ≤ Lib.indexByte K 59
  · have hroom := ixb_room K 59 h0
    rw [bif_dec (by omega), bif_dec h0, bif_dec (by omega), Nat.sub_zero]
    refine main _ (by rw [List.length_take]; omega) ?_
    rw [cut_find, if_pos h0]
  · rw [bif_ndec (by omega)]
    refine main _ hKl ?_
    rw [cut_find, if_neg h0]
theorem ref_fin {l k : Option By} {rest : By} (hl : okO l) (hr : rest.length ≤ 4194304) :
    ∃ o, ref20_Body_p697535 (l.getD [], k.getD [], l.isSome, k.isSome, rest) = some o ∧
      ((o = .inr ([], false) ∧ fin1 l k rest = ([], false)) ∨ ∃ rest', rest'.length ≤ 4194304 ∧ o = .inl (k.getD [], k.isSome, rest') ∧ fin1 l k rest = fin2 k rest') := by
  unfold ref20_Body_p697535
  cases l with
  | none => exact ⟨_, rfl, .inr ⟨rest, hr, rfl, rfl⟩⟩
  | some t =>
    obtain ⟨x, h1, h2⟩ := ref_num (hl t rfl) (m := rest.length) hr
    simp only [Option.isSome_some, cond_true, Option.getD_some]
    rw [h1]
    simp only [Option.bind_some]
    cases hd : decM rest.length t with
    | none => exact ⟨_, rfl, .inl ⟨rfl, by simp only [fin1, hd]⟩⟩
    | some n =>
      have hn := decM_le hd
      rw [h2 n hd]
      simp only [Option.isSome_some, Bool.not_true, cond_false]
      rw [bif_dec (by omega), bif_dec (by omega), Int.toNat_natCast, Nat.sub_zero]
      exact ⟨_, rfl, .inr ⟨rest.take n, by rw [List.length_take]; omega, rfl, by simp only [fin1, hd]⟩⟩
def resB : (Unit) ⊕ (By × Bool) → By × Bool
  | .inl _ => ([], false)
  | .inr r => r
theorem ref_names {line : By} {l : Option By} (nm val : By) (hn : nm = hName line) (hv : val = hVal line) (d : By) (L : List By) (at_ : Int) (K : By) (hk : Bool) (i : Int) :
    ref20_Body_p1565887 (d, L, at_, l.getD [], K, l.isSome, hk, i, nm, val) = some (d, L, at_, (hLen line l).getD [], K, (hLen line l).isSome, hk, i, nm, val) := by
  unfold ref20_Body_p1565887 hLen
  rw [show ([67, 79, 78, 84, 69, 78, 84, 45, 76, 69, 78, 71, 84, 72] : List UInt8) = wLen from rfl]
  subst hn hv
  simp only
  generalize hName line = nm
  cases b1 : nm == wLen <;> cases b2 : nm == [76] <;> cases l <;> simp [opt_none, opt_some]
theorem ref_kinds {line : By} {k : Option By} (nm val : By) (hn : nm = hName line) (hv : val = hVal line) {γ : Type} (F : By → Bool → γ) :
    (bif nm == ([67, 79, 78, 84, 69, 78, 84, 45, 84, 89, 80, 69] : List UInt8) then (bif !k.isSome then some (F val true) else some (F (k.getD []) k.isSome)) else (bif nm == ([67] : List UInt8) then (bif !k.isSome then some (F val true) else some (F (k.getD []) k.isSome)) else some (F (k.getD []) k.isSome))) = some (F ((hKind line k).getD []) (hKind line k).isSome) := by
  unfold hKind
  rw [show ([67, 79, 78, 84, 69, 78, 84, 45, 84, 89, 80, 69] : List UInt8) = wTyp from rfl]
  subst hn hv
  generalize hName line = nm
  cases b1 : nm == wTyp <;> cases b2 : nm == [67] <;> cases k <;> simp [opt_none, opt_some]
theorem ref_loop {d : By} {L : List By} (hd : d.length ≤ 4194304) (hL : L.length ≤ 4194304) : ∀ (n : Nat) (rest : By) (i a : Nat) (l k : Option By), L.drop i = lnsF n rest → d.drop a = rest → a ≤ d.length → rest.length ≤ n → 1 ≤ i → i ≤ 65 → okO l → okO k →
    ∃ o, ref20_Body_p703 (d, L, (a : Int), l.getD [], k.getD [], l.isSome, k.isSome, (i : Int)) = some o ∧ resB o = hdrM (n + 1) (i - 1) l k rest := by
  intro n
  induction n with
  | zero =>
    intro rest i a l k hLi hda ha hr h1 h2 hl hk
    have : rest = [] := List.eq_nil_of_length_eq_zero (by omega)
    subst this
    have hle : L.length ≤ i := by
      have := congrArg List.length hLi
      rw [List.length_drop] at this
      simp [lnsF] at this
      omega
    refine ⟨.inl (), ?_, rfl⟩
    unfold ref20_Body_p703
    refine iter_end ?_
    unfold ref20_Body_p703b
    rw [bif_ndec (by simp only; omega)]
  | succ n ih =>
    intro rest i a l k hLi hda ha hr h1 h2 hl hk
    have hrd : rest.length = d.length - a := by rw [← hda, List.length_drop]
    rw [hdrM]
    rw [lnsF] at hLi
    by_cases hx : Lib.index rest crlf = -1
    · rw [if_pos hx] at hLi ⊢
      have hle : L.length ≤ i := by
        have := congrArg List.length hLi
        rw [List.length_drop] at this
        simp at this
        omega
      refine ⟨.inl (), ?_, rfl⟩
      unfold ref20_Body_p703
      refine iter_end ?_
      unfold ref20_Body_p703b
      rw [bif_ndec (by simp only; omega)]
    · rw [if_neg hx] at hLi ⊢
      have hge := Lib.index_ge rest crlf
      have hroom := Lib.index_room rest crlf (by omega)
      have hcl : crlf.length = 2 := rfl
      rw [hcl] at hroom
      have hll : (rest.take (Lib.index rest crlf).toNat).length = (Lib.index rest crlf).toNat := by rw [List.length_take]; omega
      have hrl : (rest.drop ((Lib.index rest crlf).toNat + 2)).length = rest.length - ((Lib.index rest crlf).toNat + 2) := List.length_drop
      have hda' : d.drop (a + ((Lib.index rest crlf).toNat + 2)) = rest.drop ((Lib.index rest crlf).toNat + 2) := by rw [← List.drop_drop, hda]
      generalize hline : rest.take (Lib.index rest crlf).toNat = line at hLi hll ⊢
      generalize hrest : rest.drop ((Lib.index rest crlf).toNat + 2) = rest' at hLi hrl hda' ⊢
      generalize hj : (Lib.index rest crlf).toNat = j at hll hrl hda'
      have hilt : i < L.length := by
        rcases Nat.lt_or_ge i L.length with h | h
        · exact h
        · rw [List.drop_eq_nil_of_le h] at hLi; cases hLi
      rw [List.drop_eq_getElem_cons hilt] at hLi
      obtain ⟨hLi1, hLi2⟩ := List.cons.inj hLi
      have hget : L[((i : Int)).toNat]? = some line := by rw [Int.toNat_natCast, List.getElem?_eq_getElem hilt, hLi1]
      have hjl : j + 2 ≤ rest.length := by omega
      have eat : IntKind.i64.wrap ((a : Int) + IntKind.i64.wrap ((line.length : Int) + 2)) = ((a + (j + 2) : Nat) : Int) := by
        rw [wrap_i64 (x := (line.length : Int) + 2) (by omega) (by omega), wrap_i64 (by omega) (by omega)]
        omega
      have ei : IntKind.i64.wrap ((i : Int) + 1) = ((i + 1 : Nat) : Int) := by rw [wrap_i64 (by omega) (by omega)]; omega
      have hll2 : line.length ≤ 4194304 := by omega
      have ecut : (d.drop (((a + (j + 2) : Nat) : Int)).toNat).take (d.length - (((a + (j + 2) : Nat) : Int)).toNat) = rest' := by
        rw [Int.toNat_natCast, hda', List.take_of_length_le (by rw [hrl]; omega)]
      by_cases hemp : line = []
      · rw [if_pos hemp]
        obtain ⟨o, g1, g2⟩ := ref_fin (l := l) (k := k) (rest := rest') hl (by omega)
        have fin : ∃ o2, ref20_Body_p703b (d, L, (a : Int), l.getD [], k.getD [], l.isSome, k.isSome, (i : Int)) = some (.inr o2) ∧ resB o2 = fin1 l k rest' := by
          refine ⟨.inr (fin1 l k rest'), ?_, rfl⟩
          unfold ref20_Body_p703b
          simp only
          rw [bif_dec (by omega), bif_dec (by omega), hget]
          simp only [Option.bind_some]
          rw [bif_dec (by omega), show (line == ([] : By)) = true by rw [hemp]; rfl, cond_true, eat, bif_dec (by omega), bif_dec (by omega), ecut, g1]
          simp only [Option.bind_some]
          rcases g2 with ⟨rfl, g3⟩ | ⟨rest2, g3, rfl, g4⟩
          · rw [g3]
            rfl
          · simp only [Sum.elim_inl]
            rw [g4]
            exact ref_fin2 (K := k.getD []) (hk := k.isSome) rfl rfl hk g3 (fun r => Sum.inr (Sum.inr r))
        obtain ⟨o2, f1, f2⟩ := fin
        refine ⟨o2, ?_, f2⟩
        unfold ref20_Body_p703
        exact iter_end f1
      · rw [if_neg hemp]
        have hne : (line == ([] : By)) = false := by simpa using hemp
        have hfind := find_eq (s := line) (c := 58) hll2
        by_cases hc : 58 ∈ line
        · have h0 : 0 ≤ Lib.indexByte line 58 := (ixb_in line 58).2 hc
          have hroom2 := ixb_room line 58 h0
          by_cases h64 : i - 1 = 64
          · rw [if_pos h64]
            refine ⟨.inr ([], false), ?_, rfl⟩
            unfold ref20_Body_p703
            refine iter_end ?_
            unfold ref20_Body_p703b
            simp only
            rw [bif_dec (by omega), bif_dec (by omega), hget]
            simp only [Option.bind_some]
            rw [bif_dec (by omega), hne, cond_false, bif_dec (by omega), hfind, eat]
            simp only [Option.bind_some]
            unfold ref20_Body_p189631
            simp only
            rw [bif_ndec (by omega), bif_dec (by omega)]
            rfl
          · rw [if_neg h64, if_neg (fun h => h hc)]
            have step : ref20_Body_p703b (d, L, (a : Int), l.getD [], k.getD [], l.isSome, k.isSome, (i : Int)) = some (.inl (d, L, ((a + (j + 2) : Nat) : Int), (hLen line l).getD [], (hKind line k).getD [], (hLen line l).isSome, (hKind line k).isSome, ((i + 1 : Nat) : Int))) := by
              unfold ref20_Body_p703b
              simp only
              rw [bif_dec (by omega), bif_dec (by omega), hget]
              simp only [Option.bind_some]
              rw [bif_dec (by omega), hne, cond_false, bif_dec (by omega), hfind, eat]
              simp only [Option.bind_some]
              unfold ref20_Body_p189631
              simp only
              rw [bif_ndec (by omega), bif_ndec (by omega)]
              simp only [Option.bind_some, Sum.elim_inl]
              rw [bif_dec (by omega), hget]
              simp only [Option.bind_some]
              have q1 : IntKind.i64.wrap (Lib.indexByte line 58 + 1) = (((Lib.indexByte line 58).toNat + 1 : Nat) : Int) := by
                rw [wrap_i64 (by omega) (by omega)]; omega
              rw [bif_dec h0, bif_dec (by omega), Nat.sub_zero, ref_trim (by rw [List.length_take]; omega)]
              simp only [Option.bind_some]
              have t1 := trm_len (line.take (Lib.indexByte line 58).toNat)
              rw [List.length_take] at t1
              rw [upper_eq (by omega)]
              simp only [Option.bind_some]
              rw [q1, bif_dec (by omega), bif_dec (by omega), bif_dec (by omega), Int.toNat_natCast, List.take_of_length_le (by rw [List.length_drop]; exact Nat.le_refl _), ref_trim (by rw [List.length_drop]; omega)]
              simp only [Option.bind_some]
              have en : (trm (line.take (Lib.indexByte line 58).toNat)).map upB = hName line := by
                unfold hName
                rw [cut_find, if_pos h0]
              have ev : trm (line.drop ((Lib.indexByte line 58).toNat + 1)) = hVal line := by
                unfold hVal
                rw [cut_find2, if_pos h0]
              rw [ref_names _ _ en ev]
              simp only [Option.bind_some]
              rw [ei]
              exact ref_kinds (k := k) _ _ en ev (fun K b => Sum.inl (d, L, ((a + (j + 2) : Nat) : Int), (hLen line l).getD [], K, (hLen line l).isSome, b, ((i + 1 : Nat) : Int)))
            obtain ⟨o, g1, g2⟩ := ih rest' (i + 1) (a + (j + 2)) (hLen line l) (hKind line k) hLi2 hda' (by omega) (by omega) (by omega) (by omega) (hLen_ok hll2 hl) (hKind_ok hll2 hk)
            refine ⟨o, ?_, ?_⟩
            · unfold ref20_Body_p703
              rw [iter_go step]
              exact g1
            · rw [g2, show i + 1 - 1 = i - 1 + 1 by omega]
        · have h0 : ¬ 0 ≤ Lib.indexByte line 58 := fun h => hc ((ixb_in line 58).1 h)
          have hres : (if i - 1 = 64 then (([], false) : By × Bool) else if 58 ∉ line then ([], false) else hdrM (n + 1) (i - 1 + 1) (hLen line l) (hKind line k) rest') = ([], false) := by
            split
            · rfl
            · first | rfl | rw [if_pos hc]
          rw [hres]
          refine ⟨.inr ([], false), ?_, rfl⟩
          unfold ref20_Body_p703
          refine iter_end ?_
          unfold ref20_Body_p703b
          simp only
          rw [bif_dec (by omega), bif_dec (by omega), hget]
          simp only [Option.bind_some]
          rw [bif_dec (by omega), hne, cond_false, bif_dec (by omega), hfind, eat]
          simp only [Option.bind_some]
          unfold ref20_Body_p189631
          simp only
          rw [bif_dec (by omega)]
          rfl
theorem ref20_Body_eq {d : By} (hd : d.length ≤ 4194304) : ref20_Body d = some (bodyM d) := by
  unfold ref20_Body bodyM
  rw [ref_lines_eq hd]
  simp only [Option.bind_some]
  have hLl := lns_len d.length d
  cases hL : lnsF d.length d with
  | nil =>
    have hx : Lib.index d crlf = -1 := by
      cases hd0 : d with
      | nil => rfl
      | cons c t =>
        rw [hd0] at hL
        simp only [List.length_cons, lnsF] at hL
        split at hL
        · assumption
        · cases hL
    rw [if_pos (.inl hx)]
    rfl
  | cons f L' =>
    obtain ⟨m, hm⟩ : ∃ m, d.length = m + 1 := by
      cases hd0 : d with
      | nil => rw [hd0] at hL; cases hL
      | cons c t => exact ⟨t.length, rfl⟩
    have hL0 := hL
    rw [hm, lnsF] at hL
    by_cases hx : Lib.index d crlf = -1
    · rw [if_pos hx] at hL; cases hL
    rw [if_neg hx] at hL
    obtain ⟨e1, e2⟩ := List.cons.inj hL
    have hge := Lib.index_ge d crlf
    have hroom := Lib.index_room d crlf (by omega)
    have hcl : crlf.length = 2 := rfl
    rw [hcl] at hroom
    have hf : f = first d := e1.symm
    have hfl : f.length = (Lib.index d crlf).toNat := by rw [hf]; unfold first; rw [List.length_take]; omega
    have hp : ref20_Body_p11 (d, f :: L') = some (if begM d = true then .inl (d, f :: L') else .inr ([], false)) := by
      unfold ref20_Body_p11
      simp only
      rw [show (((f :: L').length : Int) == 0) = false by rw [beq_eq_false_iff_ne]; simp; omega, cond_false]
      simp only [List.getElem?_cons_zero, Option.bind_some]
      rw [begins_eq]
      simp only [Option.bind_some]
      rw [ends_eq (by omega) (by simp)]
      simp only [Option.bind_some]
      rw [hf]
      unfold begM
      cases pfx (first d) [83, 73, 80, 47, 50, 46, 48, 32] <;> cases sfx (first d) [32, 83, 73, 80, 47, 50, 46, 48] <;> rfl
    rw [hp]
    cases hb : begM d with
    | false =>
      rw [if_neg Bool.false_ne_true, if_pos (Or.inr rfl)]
      rfl
    | true =>
      rw [if_pos rfl, if_neg (fun e => e.elim hx (fun e => by cases e))]
      simp only [Option.bind_some, Sum.elim_inl, List.getElem?_cons_zero]
      have ea : IntKind.i64.wrap ((f.length : Int) + 2) = (((Lib.index d crlf).toNat + 2 : Nat) : Int) := by rw [wrap_i64 (by omega) (by omega)]; omega
      obtain ⟨o, g1, g2⟩ := ref_loop hd (L := f :: L') (by rw [← hL0]; omega) m (d.drop ((Lib.index d crlf).toNat + 2)) 1 ((Lib.index d crlf).toNat + 2) none none (by rw [e2]; rfl) rfl (by omega) (by rw [List.length_drop]; omega) (by omega) (by omega) (fun _ h => by cases h) (fun _ h => by cases h)
      rw [ea]
      have g1' : ref20_Body_p703 (d, f :: L', (((Lib.index d crlf).toNat + 2 : Nat) : Int), [], [], false, false, 1) = some o := g1
      rw [g1', hm]
      simp only [Option.bind_some]
      rw [← show resB o = hdrM (m + 1) 0 none none (d.drop ((Lib.index d crlf).toNat + 2)) from g2]
      cases o <;> rfl
end Go.Proofs.YtfaofikhabccoaaGreatDoor.Jv
