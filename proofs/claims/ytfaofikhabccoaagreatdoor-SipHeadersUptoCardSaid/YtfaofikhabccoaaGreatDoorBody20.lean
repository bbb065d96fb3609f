/- A message's body, by both; conditions: none. -/
import Derived.Test.YtfaofikhabccoaaGreatDoorWords20
namespace Go.Proofs.YtfaofikhabccoaaGreatDoor.Jv
open Go A
set_option linter.unusedSectionVars false
set_option linter.unusedVariables false
set_option linter.unusedSimpArgs false
def wLen : By := [67, 79, 78, 84, 69, 78, 84, 45, 76, 69, 78, 71, 84, 72]
def wTyp : By := [67, 79, 78, 84, 69, 78, 84, 45, 84, 89, 80, 69]
def wSdp : By := [65, 80, 80, 76, 73, 67, 65, 84, 73, 79, 78, 47, 83, 68, 80]
/-- A header's name, in capitals, and its value. -/
def hName (line : By) : By := (trm (Lib.cut line [58]).1).map upB
def hVal (line : By) : By := trm (Lib.cut line [58]).2.1
def hLen (line : By) (l : Option By) : Option By := if ((hName line == wLen || hName line == [76]) && l.isNone) = true then some (hVal line) else l
def hKind (line : By) (k : Option By) : Option By := if ((hName line == wTyp || hName line == [67]) && k.isNone) = true then some (hVal line) else k
def fin2 (k : Option By) (rest : By) : By × Bool := match k with
  | none => ([], false)
  | some t => if ((trm (Lib.cut t [59]).1).map upB == wSdp) = true then (rest, true) else ([], false)
def fin1 (l k : Option By) (rest : By) : By × Bool := match l with
  | none => fin2 k rest
  | some t => match decM rest.length t with
    | none => ([], false)
    | some n => fin2 k (rest.take n)
def hdrM : Nat → Nat → Option By → Option By → By → By × Bool
  | 0, _, _, _, _ => ([], false)
  | n + 1, heads, l, k, rest => if Lib.index rest crlf = -1 then ([], false)
    else if rest.take (Lib.index rest crlf).toNat = [] then fin1 l k (rest.drop ((Lib.index rest crlf).toNat + 2))
    else if heads = 64 then ([], false)
    else if 58 ∉ rest.take (Lib.index rest crlf).toNat then ([], false)
    else hdrM n (heads + 1) (hLen (rest.take (Lib.index rest crlf).toNat) l) (hKind (rest.take (Lib.index rest crlf).toNat) k) (rest.drop ((Lib.index rest crlf).toNat + 2))
/-- A message's body. -/
def first (d : By) : By := d.take (Lib.index d crlf).toNat
def begM (d : By) : Bool := pfx (first d) [83, 73, 80, 47, 50, 46, 48, 32] || sfx (first d) [32, 83, 73, 80, 47, 50, 46, 48]
def bodyM (d : By) : By × Bool := if Lib.index d crlf = -1 ∨ begM d = false then ([], false) else hdrM d.length 0 none none (d.drop ((Lib.index d crlf).toNat + 2))
theorem cut_sep {s sep : By} (h : Lib.index s sep ≠ -1) : Lib.cut s sep = (s.take (Lib.index s sep).toNat, s.drop ((Lib.index s sep).toNat + sep.length), true) := by
  have := Lib.index_ge s sep
  unfold Lib.cut
  rw [if_pos (by omega)]
theorem cut_no {s sep : By} (h : Lib.index s sep = -1) : Lib.cut s sep = (s, [], false) := by
  unfold Lib.cut
  rw [if_neg (by omega)]
theorem colon_in (s : By) (c : UInt8) : (Lib.cut s [c]).2.2 = decide (c ∈ s) := by
  rcases ixb s c with ⟨h3, h4⟩ | ⟨j, h3, h4, h5, h6⟩
  · rw [cut_no (by rw [Lib.index_one]; exact h3), decide_eq_false h4]
  · rw [cut_sep (by rw [Lib.index_one]; omega), decide_eq_true (by rw [h5]; simp)]
theorem cutK {s : By} (h : s.length ≤ 4194304) (c : UInt8) : strings_Cut s [c] = some (Lib.cut s [c]) := by
  unfold strings_Cut
  rw [decide_eq_true (by omega)]
  rfl
theorem cutC {s : By} (h : s.length ≤ 4194304) : bytes_Cut s crlf = some (Lib.cut s crlf) := by
  unfold bytes_Cut
  rw [decide_eq_true (by omega)]
  rfl
theorem cloneC {s : By} (h : s.length ≤ 4194304) : bytes_Clone s = some s := by
  unfold bytes_Clone
  rw [decide_eq_true (by omega)]
  rfl
theorem upL (w : By) : (w.map upB).length = w.length := List.length_map _
/-! ### The program -/
/-- What stands behind the headers. -/
theorem sip_fin2 {k rest : By} (hk : k.length ≤ 4194304) (hr : rest.length ≤ 4194304) {γ δ : Type} (F : By × Bool → γ ⊕ δ) :
    ((strings_Cut k [59]).bind fun (r5 : By × By × Bool) => (strings_Trim r5.1 [32, 9]).bind fun (r6 : By) => (sip_small r6).bind fun (r7 : By) => bif (!(r7 == [97, 112, 112, 108, 105, 99, 97, 116, 105, 111, 110, 47, 115, 100, 112])) then some (F ([], false)) else (bytes_Clone rest).bind fun (r8 : By) => some (F (r8, true))) = some (F (fin2 (some k) rest)) := by
  have h1 := (cut_len k [59]).1
  have h2 := trm_len (Lib.cut k [59]).1
  rw [cutK hk]
  simp only [Option.bind_some]
  rw [sip_trim (by omega)]
  simp only [Option.bind_some]
  rw [sip_small_eq (by omega)]
  simp only [Option.bind_some]
  rw [small_word (by decide), cloneC hr]
  simp only [fin2]
  rw [show (([97, 112, 112, 108, 105, 99, 97, 116, 105, 111, 110, 47, 115, 100, 112] : By).map upB) = wSdp from by decide]
  cases ((trm (Lib.cut k [59]).1).map upB == wSdp) <;> rfl
theorem opt_none {α : Type} : (none : Option α).isNone = true := rfl
theorem opt_some {α : Type} (x : α) : (some x).isNone = false := rfl
def okO (l : Option By) : Prop := ∀ t, l = some t → t.length ≤ 4194304
theorem sip_fin {l k : Option By} {rest : By} (hl : okO l) (hk : okO k) (hr : rest.length ≤ 4194304) {γ δ : Type} (F : By × Bool → γ ⊕ δ) :
    (bif !l.isNone then (l.bind fun (e2 : By) => (sip_number e2 (rest.length : Int)).bind fun (r3 : Int × Bool) => bif !r3.2 then some (F ([], false)) else (bif decide (0 ≤ r3.1) then (bif decide (r3.1 ≤ (rest.length : Int)) then (bif k.isNone then some (F ([], false)) else (k.bind fun (e4 : By) => (strings_Cut e4 [59]).bind fun (r5 : By × By × Bool) => (strings_Trim r5.1 [32, 9]).bind fun (r6 : By) => (sip_small r6).bind fun (r7 : By) => bif (!(r7 == [97, 112, 112, 108, 105, 99, 97, 116, 105, 111, 110, 47, 115, 100, 112])) then some (F ([], false)) else (bytes_Clone (rest.take (r3.1.toNat - 0))).bind fun (r8 : By) => some (F (r8, true)))) else none) else none))
      else (bif k.isNone then some (F ([], false)) else (k.bind fun (e9 : By) => (strings_Cut e9 [59]).bind fun (r10 : By × By × Bool) => (strings_Trim r10.1 [32, 9]).bind fun (r11 : By) => (sip_small r11).bind fun (r12 : By) => bif (!(r12 == [97, 112, 112, 108, 105, 99, 97, 116, 105, 111, 110, 47, 115, 100, 112])) then some (F ([], false)) else (bytes_Clone rest).bind fun (r13 : By) => some (F (r13, true))))) = some (F (fin1 l k rest)) := by
  cases l with
  | none =>
    simp only [opt_none, Bool.not_true, cond_false, fin1]
    cases k with
    | none => rfl
    | some t =>
      simp only [opt_some, cond_false, Option.bind_some]
      exact sip_fin2 (hk t rfl) hr F
  | some e2 =>
    simp only [opt_some, Bool.not_false, cond_true, Option.bind_some, fin1]
    obtain ⟨x, h1, h2⟩ := sip_num (hl e2 rfl) (m := rest.length) hr
    rw [h1]
    simp only [Option.bind_some]
    cases hd : decM rest.length e2 with
    | none => rfl
    | some n =>
      rw [h2 n hd]
      have hn := decM_le hd
      simp only [Option.isSome_some, Bool.not_true, cond_false]
      rw [bif_dec (by omega), bif_dec (by omega)]
      cases k with
      | none => rfl
      | some t =>
        simp only [opt_some, cond_false, Option.bind_some, Int.toNat_natCast, Nat.sub_zero]
        exact sip_fin2 (hk t rfl) (by rw [List.length_take]; omega) F
theorem hVal_len (line : By) : (hVal line).length ≤ line.length := Nat.le_trans (trm_len _) (cut_len line [58]).2
theorem hLen_ok {line : By} {l : Option By} (h : line.length ≤ 4194304) (hl : okO l) : okO (hLen line l) := by
  intro t ht
  unfold hLen at ht
  split at ht
  · cases ht
    exact Nat.le_trans (hVal_len line) h
  · exact hl t ht
theorem hKind_ok {line : By} {l : Option By} (h : line.length ≤ 4194304) (hl : okO l) : okO (hKind line l) := by
  intro t ht
  unfold hKind at ht
  split at ht
  · cases ht
    exact Nat.le_trans (hVal_len line) h
  · exact hl t ht
theorem words_apart (w : By) : ((w == wLen) = true → (w == wTyp) = false ∧ (w == [67]) = false) ∧ ((w == [76]) = true → (w == wTyp) = false ∧ (w == [67]) = false) := by
  refine ⟨fun h => ?_, fun h => ?_⟩
  · have := eq_of_beq h
    subst this
    exact ⟨by decide, by decide⟩
  · have := eq_of_beq h
    subst this
    exact ⟨by decide, by decide⟩
theorem sip_loop : ∀ (n : Nat) (rest : By) (heads : Nat) (l k : Option By), rest.length ≤ n → n ≤ 4194304 → heads ≤ 64 → okO l → okO k →
    sip_Body_p191 (crlf, rest, (heads : Int), l, k) = some (hdrM (n + 1) heads l k rest) := by
  intro n
  induction n with
  | zero =>
    intro rest heads l k h1 h2 h3 hl hk
    have : rest = [] := List.eq_nil_of_length_eq_zero (by omega)
    subst this
    unfold sip_Body_p191
    refine iter_end ?_
    unfold sip_Body_p191b
    simp only
    rw [cutC (by simp), cut_no (show Lib.index [] crlf = -1 from rfl)]
    rfl
  | succ n ih =>
    intro rest heads l k h1 h2 h3 hl hk
    rw [hdrM]
    unfold sip_Body_p191
    by_cases hx : Lib.index rest crlf = -1
    · rw [if_pos hx]
      refine iter_end ?_
      unfold sip_Body_p191b
      simp only
      rw [cutC (by omega), cut_no hx]
      rfl
    · rw [if_neg hx]
      have hge := Lib.index_ge rest crlf
      have hroom := Lib.index_room rest crlf (by omega)
      have hcl : crlf.length = 2 := rfl
      rw [hcl] at hroom
      generalize hline : rest.take (Lib.index rest crlf).toNat = line
      generalize hrest : rest.drop ((Lib.index rest crlf).toNat + 2) = rest'
      have hlen : line.length ≤ 4194304 := by rw [← hline, List.length_take]; omega
      have hlen' : rest'.length ≤ n := by rw [← hrest, List.length_drop]; omega
      have hcut : bytes_Cut rest crlf = some (line, rest', true) := by
        rw [cutC (by omega), cut_sep hx, hcl, hline, hrest]
      by_cases hemp : line = []
      · rw [if_pos hemp]
        refine iter_end ?_
        unfold sip_Body_p191b
        simp only
        rw [hcut]
        simp only [Option.bind_some, Bool.not_true, cond_false]
        rw [hemp]
        simp only [List.length_nil, show (((0 : Nat) : Int) == 0) = true from rfl, cond_true]
        exact sip_fin hl hk (by omega) (fun r => .inr r)
      · rw [if_neg hemp]
        have hpos : 0 < line.length := List.length_pos_iff.2 hemp
        have e0 : ((line.length : Int) == 0) = false := by rw [beq_eq_false_iff_ne]; omega
        by_cases h64 : heads = 64
        · rw [if_pos h64]
          refine iter_end ?_
          unfold sip_Body_p191b
          simp only
          rw [hcut]
          simp only [Option.bind_some, Bool.not_true, cond_false]
          rw [e0, cond_false, show (((heads : Nat) : Int) == 64) = true by rw [beq_iff_eq]; omega]
          rfl
        · rw [if_neg h64]
          have e64 : (((heads : Nat) : Int) == 64) = false := by rw [beq_eq_false_iff_ne]; omega
          have ew : IntKind.i64.wrap ((heads : Int) + 1) = ((heads + 1 : Nat) : Int) := by rw [wrap_i64 (by omega) (by omega)]; omega
          have t1 := cut_len line [58]
          have t2 := trm_len (Lib.cut line [58]).1
          have step : sip_Body_p191b (crlf, rest, (heads : Int), l, k) = some (if 58 ∉ line then .inr ([], false) else .inl (crlf, rest', ((heads + 1 : Nat) : Int), hLen line l, hKind line k)) := by
            unfold sip_Body_p191b
            simp only
            rw [hcut]
            simp only [Option.bind_some, Bool.not_true, cond_false]
            rw [e0, cond_false, e64, cond_false, cutK hlen]
            simp only [Option.bind_some]
            rw [sip_trim (by omega), sip_trim (by omega)]
            simp only [Option.bind_some]
            rw [sip_small_eq (by omega)]
            simp only [Option.bind_some]
            rw [small_word (K := [99, 111, 110, 116, 101, 110, 116, 45, 108, 101, 110, 103, 116, 104]) (by decide), small_word (K := [108]) (by decide), small_word (K := [99, 111, 110, 116, 101, 110, 116, 45, 116, 121, 112, 101]) (by decide), small_word (K := [99]) (by decide)]
            rw [show (([99, 111, 110, 116, 101, 110, 116, 45, 108, 101, 110, 103, 116, 104] : By).map upB) = wLen by decide, show (([108] : By).map upB) = [76] by decide, show (([99, 111, 110, 116, 101, 110, 116, 45, 116, 121, 112, 101] : By).map upB) = wTyp by decide, show (([99] : By).map upB) = [67] by decide]
            rw [colon_in, ew]
            obtain ⟨w1, w2⟩ := words_apart (hName line)
            unfold hLen hKind
            change _ = some (if 58 ∉ line then Sum.inr ([], false) else Sum.inl (crlf, rest', ((heads + 1 : Nat) : Int), (if ((hName line == wLen || hName line == [76]) && l.isNone) = true then some (hVal line) else l), (if ((hName line == wTyp || hName line == [67]) && k.isNone) = true then some (hVal line) else k)))
            rw [show trm (Lib.cut line [58]).2.1 = hVal line from rfl, show (trm (Lib.cut line [58]).1).map upB = hName line from rfl]
            generalize hName line = nm at w1 w2 ⊢
            by_cases hc : 58 ∈ line
            · rw [decide_eq_true hc, if_neg (fun h => h hc)]
              cases b1 : nm == wLen <;> cases b2 : nm == [76] <;> cases b3 : nm == wTyp <;> cases b4 : nm == [67] <;> cases l <;> cases k <;>
                simp_all [opt_none, opt_some]
            · rw [decide_eq_false hc, if_pos hc]
              cases b1 : nm == wLen <;> cases b2 : nm == [76] <;> cases b3 : nm == wTyp <;> cases b4 : nm == [67] <;> cases l <;> cases k <;>
                simp_all [opt_none, opt_some]
          by_cases hc : 58 ∉ line
          · rw [if_pos hc] at step ⊢
            exact iter_end step
          · rw [if_neg hc] at step ⊢
            rw [iter_go step]
            have := ih rest' (heads + 1) (hLen line l) (hKind line k) hlen' (by omega) (by omega) (hLen_ok hlen hl) (hKind_ok hlen hk)
            exact this
end Go.Proofs.YtfaofikhabccoaaGreatDoor.Jv
