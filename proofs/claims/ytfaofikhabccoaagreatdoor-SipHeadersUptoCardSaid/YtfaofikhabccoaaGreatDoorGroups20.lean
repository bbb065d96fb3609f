/- Groups of 16 bits, by both; conditions: none. -/
import Derived.Test.YtfaofikhabccoaaGreatDoorNumbers20
namespace Go.Proofs.YtfaofikhabccoaaGreatDoor.Jv.A
open Go
set_option linter.unusedSectionVars false
set_option linter.unusedVariables false
set_option linter.unusedSimpArgs false
theorem dec_nat {n : Nat} (k : Nat) : decide ((n : Int) ≥ ((k : Nat) : Int)) = decide (k ≤ n) := by
  by_cases h : k ≤ n
  · rw [decide_eq_true h, decide_eq_true (by omega)]
  · rw [decide_eq_false h, decide_eq_false (by omega)]
theorem dec_nat' {n : Nat} (k : Nat) : decide ((n : Int) ≤ ((k : Nat) : Int)) = decide (n ≤ k) := by
  by_cases h : n ≤ k
  · rw [decide_eq_true h, decide_eq_true (by omega)]
  · rw [decide_eq_false h, decide_eq_false (by omega)]
theorem grp_step {s : By} {i : Nat} (hi : i < s.length) : addr_group_p21b (s, s, i) = if Pu.isHex s[i] = true then some (.inl (s, s, i + 1)) else some (.inr (.inr (0, false))) := by
  unfold addr_group_p21b
  simp only
  rw [bif_dec hi]
  by_cases h128 : s[i].toNat < 128
  · rw [decode_low hi h128]
    simp only
    have e1 := dec_nat (n := s[i].toNat) 48
    have e2 := dec_nat' (n := s[i].toNat) 57
    have e3 := dec_nat (n := s[i].toNat) 97
    have e4 := dec_nat' (n := s[i].toNat) 102
    have e5 := dec_nat (n := s[i].toNat) 65
    have e6 := dec_nat' (n := s[i].toNat) 70
    rw [show ((48 : Nat) : Int) = 48 from rfl] at e1
    rw [show ((57 : Nat) : Int) = 57 from rfl] at e2
    rw [show ((97 : Nat) : Int) = 97 from rfl] at e3
    rw [show ((102 : Nat) : Int) = 102 from rfl] at e4
    rw [show ((65 : Nat) : Int) = 65 from rfl] at e5
    rw [show ((70 : Nat) : Int) = 70 from rfl] at e6
    unfold Pu.isHex
    rw [e1, e2, e3, e4, e5, e6]
    cases h1 : decide (48 ≤ s[i].toNat) <;> cases h2 : decide (s[i].toNat ≤ 57) <;> cases h3 : decide (97 ≤ s[i].toNat) <;> cases h4 : decide (s[i].toNat ≤ 102) <;> cases h5 : decide (65 ≤ s[i].toNat) <;> cases h6 : decide (s[i].toNat ≤ 70) <;> first | rfl | (exfalso; simp only [decide_eq_true_eq, decide_eq_false_iff_not] at h1 h2 h3 h4 h5 h6; omega)
  · have hd := decode_high hi h128
    have hx : Pu.isHex s[i] = false := by
      unfold Pu.isHex
      simp only [Bool.or_eq_false_iff, Bool.and_eq_false_iff, decide_eq_false_iff_not]
      omega
    rw [hx, if_neg (by decide), bif_dec (by omega), bif_ndec (by omega), bif_dec (by omega), bif_ndec (by omega), bif_dec (by omega), decide_eq_false (by omega)]
    rfl
theorem grp_loop {s : By} : ∀ k i, i + k = s.length → addr_group_p21 (s, s, i) = some (if (s.drop i).all Pu.isHex then .inl s else .inr (0, false)) := by
  intro k
  induction k with
  | zero =>
    intro i h1
    unfold addr_group_p21
    refine iter_end ?_
    unfold addr_group_p21b
    rw [bif_ndec (by simp only; omega), List.drop_eq_nil_of_le (by omega)]
    rfl
  | succ k ih =>
    intro i h1
    have hi : i < s.length := by omega
    have step := grp_step hi
    rw [List.drop_eq_getElem_cons hi, List.all_cons]
    unfold addr_group_p21
    by_cases hd : Pu.isHex s[i] = true
    · rw [if_pos hd] at step
      rw [hd, Bool.true_and, iter_go step]
      exact ih (i + 1) (by omega)
    · rw [if_neg hd] at step
      have hd2 : Pu.isHex s[i] = false := by simpa using hd
      rw [hd2, Bool.false_and, iter_end step]
      rfl
theorem hex_dv {c : UInt8} (h : Pu.isHex c = true) : Pu.hexV c = dv c ∧ dv c < 16 := by
  unfold Pu.isHex at h
  simp only [Bool.or_eq_true, Bool.and_eq_true, decide_eq_true_eq] at h
  unfold Pu.hexV dv
  rcases h with h | h | h
  · rw [if_pos h.2, if_pos h]
    omega
  · rw [if_neg (by omega), if_pos h.2, if_neg (by omega), if_neg (by omega), if_pos h]
    omega
  · rw [if_neg (by omega), if_neg (by omega), if_neg (by omega), if_pos h]
    omega
theorem hex_not_dv {c : UInt8} (h : Pu.isHex c = false) : 16 ≤ dv c := by
  unfold Pu.isHex at h
  simp only [Bool.or_eq_false_iff, Bool.and_eq_false_iff, decide_eq_false_iff_not] at h
  unfold dv
  split
  · omega
  · split
    · omega
    · split <;> omega
theorem pu_refN : ∀ {l : By} (n : Nat), l.all Pu.isHex = true → Pu.pu16 n l = refN 16 65535 n l
  | [], n, _ => rfl
  | c :: l, n, h => by
    simp only [List.all_cons, Bool.and_eq_true] at h
    obtain ⟨h1, h2⟩ := hex_dv h.1
    unfold Pu.pu16 refN
    rw [h1, if_neg (show ¬ 16 ≤ dv c by omega), pu_refN _ h.2]
theorem addr_grp {s : By} (hs : s.length ≤ 4194304) : Tells (addr_group s) (hexM s) := by
  unfold addr_group
  rw [grp_loop s.length 0 (by omega), List.drop_zero]
  cases ha : s.all Pu.isHex with
  | false =>
    have hd : hexM s = none := by
      unfold hexM
      split
      · rfl
      · refine refN_bad 0 ?_
        obtain ⟨c, hc, hn⟩ := List.all_eq_false.1 ha
        exact ⟨c, hc, hex_not_dv (by simpa using hn)⟩
    rw [hd]
    exact ⟨0, rfl, fun n h => by cases h⟩
  | true =>
    simp only [if_true, Option.bind_some, Sum.elim_inl]
    unfold strconv_ParseUint
    rw [decide_eq_true (by omega), ha]
    simp only [beq_self_eq_true, Bool.and_self, cond_true, Option.bind_some]
    cases s with
    | nil => exact ⟨0, rfl, fun n h => by simp [hexM] at h⟩
    | cons c l =>
      have hp := pu_refN 0 ha
      cases hr : refN 16 65535 0 (c :: l) with
      | none =>
        have hd : hexM (c :: l) = none := by
          unfold hexM
          split
          · rfl
          · exact hr
        have hv : puHex (c :: l) = (65535, false) := by unfold puHex; simp only [hp, hr]
        rw [hv, hd]
        exact ⟨_, rfl, fun n h => by cases h⟩
      | some v =>
        have hv : puHex (c :: l) = ((v : Int), true) := by unfold puHex; simp only [hp, hr]
        rw [hv]
        simp only [cond_true]
        by_cases h4 : 4 < (c :: l).length
        · have hd : hexM (c :: l) = none := by unfold hexM; rw [if_pos (.inr h4)]
          rw [hd, decide_eq_false (by omega)]
          exact ⟨_, rfl, fun n h => by cases h⟩
        · have hd : hexM (c :: l) = some v := by
            unfold hexM
            rw [if_neg (show ¬ (c :: l = [] ∨ 4 < (c :: l).length) from fun e => e.elim (fun e => by cases e) h4)]
            exact hr
          rw [hd, decide_eq_true (by omega)]
          exact ⟨_, rfl, fun n h => by cases h; rfl⟩
/-! ### Groups between colons -/
def hb (n : Nat) : By := [UInt8.ofNat (n / 256), UInt8.ofNat (n % 256)]
def grpM : List By → Option By
  | [] => some []
  | x :: l => (hexM x).bind fun n => (grpM l).bind fun r => some (hb n ++ r)
def groupsM (s : By) : Option By := if s = [] then some [] else grpM (spl 58 s)
theorem hexM_lt {s : By} {n : Nat} (h : hexM s = some n) : n < 65536 := by
  unfold hexM at h
  split at h
  · cases h
  · have := refN_le (by omega) h
    omega
theorem hb_eq {k : IntKind} (hk : 8 ≤ k.bits) {n : Nat} (hn : n < 65536) : [(UInt8.ofNat ((IntKind.u8.wrap (ishr k (n : Int) 8))).toNat), (UInt8.ofNat ((IntKind.u8.wrap (n : Int))).toNat)] = hb n := by
  have e : ishr k (n : Int) 8 = ((n / 2 ^ 8 : Nat) : Int) := ishr_nat (n := 8) hk
  rw [e, wrap_u8_mod, wrap_u8_mod]
  unfold hb
  rw [show (((n / 2 ^ 8 : Nat) : Int) % 256).toNat = n / 256 by omega, show (((n : Nat) : Int) % 256).toNat = n % 256 by omega]
theorem addr_groups_loop {L : List By} (hL : L.length ≤ 4194305) (hx : ∀ x ∈ L, x.length ≤ 4194304) : ∀ k i (acc : By), i + k = L.length → acc.length = 2 * i →
    addr_groups_p87 (L, (L.length : Int), (i : Int), acc) = some (match grpM (L.drop i) with | some r => .inl (acc ++ r) | none => .inr (false, [])) := by
  intro k
  induction k with
  | zero =>
    intro i acc h1 h2
    unfold addr_groups_p87
    refine iter_end ?_
    unfold addr_groups_p87b
    rw [bif_ndec (by simp only; omega), List.drop_eq_nil_of_le (by omega)]
    simp [grpM]
  | succ k ih =>
    intro i acc h1 h2
    have hi : i < L.length := by omega
    have e1 : IntKind.i64.wrap ((i : Int) + 1) = ((i + 1 : Nat) : Int) := by rw [wrap_i64 (by omega) (by omega)]; omega
    obtain ⟨x, hg, hv⟩ := addr_grp (hx _ (List.getElem_mem hi))
    rw [List.drop_eq_getElem_cons hi, grpM]
    unfold addr_groups_p87
    cases hm : hexM L[i] with
    | none =>
      rw [hm] at hg
      refine iter_end ?_
      unfold addr_groups_p87b
      simp only
      rw [bif_dec (by omega), bif_dec (by omega), Int.toNat_natCast, List.getElem?_eq_getElem hi, Option.bind_some, hg]
      rfl
    | some n =>
      rw [hm] at hg
      have hn := hexM_lt hm
      have hxn := hv n hm
      subst hxn
      have := ih (i + 1) (acc ++ hb n) (by omega) (by simp [hb]; omega)
      refine Eq.trans (iter_go ?_) (this.trans ?_)
      · unfold addr_groups_p87b
        simp only
        rw [bif_dec (by omega), bif_dec (by omega), Int.toNat_natCast, List.getElem?_eq_getElem hi, Option.bind_some, hg]
        simp only [Option.bind_some, Option.isSome_some, Bool.not_true, cond_false]
        rw [fits_of (by omega) (by decide), hb_eq (by decide) hn, e1]
        rfl
      · simp only [Option.bind_some]
        cases grpM (L.drop (i + 1)) with
        | none => rfl
        | some r => simp only [Option.bind_some, List.append_assoc]
theorem spl_small {s : By} (hs : s.length ≤ 4194304) (c : UInt8) : (spl c s).length ≤ 4194305 ∧ ∀ x ∈ spl c s, x.length ≤ 4194304 := by
  obtain ⟨h1, h2⟩ := spl_len c s
  exact ⟨by omega, fun x hx => by have := h2 x hx; omega⟩
theorem addr_groups_eq {s : By} (hs : s.length ≤ 4194304) : addr_groups s = some ((groupsM s).isSome, (groupsM s).getD []) := by
  unfold addr_groups groupsM
  cases s with
  | nil => rfl
  | cons c l =>
    have e0 : ((c :: l) == ([] : By)) = false := rfl
    obtain ⟨g1, g2⟩ := spl_small hs 58
    rw [e0, cond_false, Split_eq hs, if_neg (show ¬ c :: l = [] by simp)]
    have := addr_groups_loop g1 g2 (spl 58 (c :: l)).length 0 [] (by omega) rfl
    rw [List.drop_zero] at this
    simp only [Option.bind_some]
    rw [show addr_groups_p87 (spl 58 (c :: l), ((spl 58 (c :: l)).length : Int), 0, []) = _ from this]
    cases grpM (spl 58 (c :: l)) with
    | none => rfl
    | some r => rfl
theorem ref_groups_loop {L : List By} (hL : L.length ≤ 4194305) (hx : ∀ x ∈ L, x.length ≤ 4194304) : ∀ k i (acc : By), i + k = L.length → acc.length = 2 * i →
    ref02_groups_p175 (L, (i : Int), acc) = some (match grpM (L.drop i) with | some r => .inl (acc ++ r) | none => .inr (false, [])) := by
  intro k
  induction k with
  | zero =>
    intro i acc h1 h2
    unfold ref02_groups_p175
    refine iter_end ?_
    unfold ref02_groups_p175b
    rw [bif_ndec (by simp only; omega), List.drop_eq_nil_of_le (by omega)]
    simp [grpM]
  | succ k ih =>
    intro i acc h1 h2
    have hi : i < L.length := by omega
    have e1 : IntKind.i64.wrap ((i : Int) + 1) = ((i + 1 : Nat) : Int) := by rw [wrap_i64 (by omega) (by omega)]; omega
    obtain ⟨x, hg, hv⟩ := ref_hex (hx _ (List.getElem_mem hi))
    rw [List.drop_eq_getElem_cons hi, grpM]
    unfold ref02_groups_p175
    cases hm : (if L[i] = [] then none else refN 16 65535 0 L[i]) with
    | none =>
      rw [hm] at hg
      have hm' : hexM L[i] = none := by
        unfold hexM
        split
        · rfl
        · rename_i h; rw [if_neg (fun e => h (.inl e))] at hm; exact hm
      rw [hm']
      refine iter_end ?_
      unfold ref02_groups_p175b
      simp only
      rw [bif_dec (by omega), bif_dec (by omega), Int.toNat_natCast, List.getElem?_eq_getElem hi, Option.bind_some, hg]
      rfl
    | some n =>
      rw [hm] at hg
      have hxn := hv n hm
      subst hxn
      by_cases h4 : 4 < L[i].length
      · have hm' : hexM L[i] = none := by unfold hexM; rw [if_pos (.inr h4)]
        rw [hm']
        refine iter_end ?_
        unfold ref02_groups_p175b
        simp only
        rw [bif_dec (by omega), bif_dec (by omega), Int.toNat_natCast, List.getElem?_eq_getElem hi, Option.bind_some, hg]
        simp only [Option.bind_some, Option.isSome_some, Bool.not_true, cond_false]
        rw [bif_dec (by omega), bif_dec (by omega)]
        rfl
      · have hm' : hexM L[i] = some n := by
          unfold hexM
          have hne : L[i] ≠ [] := fun e => by rw [if_pos e] at hm; cases hm
          rw [if_neg (fun e => e.elim hne h4)]
          rw [if_neg hne] at hm
          exact hm
        have hn := hexM_lt hm'
        rw [hm']
        have := ih (i + 1) (acc ++ hb n) (by omega) (by simp [hb]; omega)
        refine Eq.trans (iter_go ?_) (this.trans ?_)
        · unfold ref02_groups_p175b
          simp only
          rw [bif_dec (by omega), bif_dec (by omega), Int.toNat_natCast, List.getElem?_eq_getElem hi, Option.bind_some, hg]
          simp only [Option.bind_some, Option.isSome_some, Bool.not_true, cond_false]
          rw [bif_dec (by omega), bif_ndec (by omega), fits_of (by omega) (by decide), hb_eq (by decide) hn, e1]
          rfl
        · simp only [Option.bind_some]
          cases grpM (L.drop (i + 1)) with
          | none => rfl
          | some r => simp only [Option.bind_some, List.append_assoc]
theorem ref_groups_eq {s : By} (hs : s.length ≤ 4194304) : ref02_groups s = some ((groupsM s).isSome, (groupsM s).getD []) := by
  unfold ref02_groups groupsM
  cases s with
  | nil => rfl
  | cons c l =>
    have e0 : ((c :: l) == ([] : By)) = false := rfl
    obtain ⟨g1, g2⟩ := spl_small hs 58
    rw [e0, cond_false, ref_Split_eq hs, if_neg (show ¬ c :: l = [] by simp)]
    have := ref_groups_loop g1 g2 (spl 58 (c :: l)).length 0 [] (by omega) rfl
    rw [List.drop_zero] at this
    simp only [Option.bind_some]
    rw [show ref02_groups_p175 (spl 58 (c :: l), 0, []) = _ from this]
    cases grpM (spl 58 (c :: l)) with
    | none => rfl
    | some r => rfl
theorem grpM_len : ∀ {L : List By} {r : By}, grpM L = some r → r.length = 2 * L.length
  | [], r, h => by cases h; rfl
  | x :: l, r, h => by
    unfold grpM at h
    cases hx : hexM x with
    | none => rw [hx] at h; cases h
    | some n =>
      cases hg : grpM l with
      | none => rw [hx, hg] at h; cases h
      | some q =>
        rw [hx, hg] at h
        cases h
        have := grpM_len hg
        simp [hb, this]
        omega
theorem groupsM_len {s r : By} (hs : s.length ≤ 4194304) (h : groupsM s = some r) : r.length ≤ 8388610 := by
  unfold groupsM at h
  split at h
  · cases h; simp
  · have := grpM_len h
    have := (spl_small hs 58).1
    omega
end Go.Proofs.YtfaofikhabccoaaGreatDoor.Jv.A
