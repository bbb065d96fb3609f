/- What stands in brackets, by both; conditions: none. -/
import Derived.Test.YtpkhlncohbakkaaGreatDoorEprt18
namespace Go.Proofs.YtpkhlncohbakkaaGreatDoor.Jv
open Go
set_option linter.unusedSectionVars false
set_option linter.unusedVariables false
set_option linter.unusedSimpArgs false
theorem cut_one_no {s : By} {c : UInt8} (h : c ∉ s) : Lib.cut s [c] = (s, [], false) := by
  unfold Lib.cut
  rw [Lib.index_one]
  rcases ixb s c with ⟨h1, _⟩ | ⟨i, h1, h2, h3, h4⟩
  · rw [h1, if_neg (by omega)]
  · exact absurd (by rw [h3]; simp) h
theorem take_not {s : By} {c : UInt8} {i j : Nat} (hi : i < s.length) (h : s[i] = c) (hj : c ∉ s.take j) : j ≤ i := by
  rcases Nat.lt_or_ge i j with q | q
  · exact absurd (by rw [← h]; exact List.mem_take_iff_getElem.2 ⟨i, by omega, rfl⟩) hj
  · exact q
theorem cut_one_at {s : By} {c : UInt8} {i : Nat} (hi : i < s.length) (h : s[i] = c) (hn : c ∉ s.take i) : Lib.cut s [c] = (s.take i, s.drop (i + 1), true) := by
  unfold Lib.cut
  rw [Lib.index_one]
  rcases ixb s c with ⟨_, h2⟩ | ⟨j, h1, h2, h3, h4⟩
  · exact absurd (by rw [← h]; exact List.getElem_mem hi) h2
  · have hj : s[j] = c := by
      have e : (s.take j ++ c :: s.drop (j + 1))[j]? = some c := by
        rw [List.getElem?_append_right (by simp; omega)]
        simp [show j - min j s.length = 0 by omega]
      rw [← h3, List.getElem?_eq_getElem h2] at e
      exact Option.some.inj e
    have e1 := take_not hi h h4
    have e2 := take_not h2 hj hn
    have : j = i := by omega
    subst this
    rw [h1, if_pos (by omega)]
    rfl
theorem notin_succ {s : By} {c : UInt8} {i : Nat} (hi : i < s.length) (h : s[i] ≠ c) (hn : c ∉ s.take i) : c ∉ s.take (i + 1) := by
  rw [List.take_succ_eq_append_getElem hi]
  intro hm
  rcases List.mem_append.1 hm with hm | hm
  · exact hn hm
  · simp at hm; exact h hm.symm
/-- What stands in the first brackets. -/
def innT (t : By) : Option By := if (Lib.cut t [41]).2.2 then some (Lib.cut t [41]).1 else none
def innerQ (s : By) : Option By := innT (Lib.cut s [40]).2.1
theorem innerQ_len {s t : By} (h : innerQ s = some t) : t.length ≤ s.length := by
  unfold innerQ innT at h
  have h1 := (cut_len s [40]).2
  have h2 := (cut_len (Lib.cut s [40]).2.1 [41]).1
  split at h
  · cases h; omega
  · cases h
theorem ftp_inner_eq {s : By} (hs : s.length ≤ 1048576) : ftp_inner s = some ((innerQ s).getD []) := by
  unfold ftp_inner
  obtain ⟨c1, c2⟩ := cut_len s [40]
  rw [cut_some hs]
  simp only [Option.bind_some]
  rw [cut_some (by omega)]
  simp only [Option.bind_some]
  unfold innerQ innT
  cases (Lib.cut (Lib.cut s [40]).2.1 [41]).2.2 with
  | false => rfl
  | true => rfl
theorem bL_eqb {s : By} {i : Nat} (h : i < s.length) (c : UInt8) : (bL s (i : Int) == ((c.toNat : Nat) : Int)) = decide (s[i] = c) := by
  rw [bL_at h, byte_is]
theorem inn_loop {s : By} (hs : s.length ≤ 1048576) {i : Nat} (hi : i < s.length) : ∀ n k, n + k = s.length → i + 1 ≤ k → (41 : UInt8) ∉ (s.drop (i + 1)).take (k - (i + 1)) →
    ref18_inner_p5413 (s, (i : Int), (k : Int)) = some (match innT (s.drop (i + 1)) with | some u => .inr (u, true) | none => .inl ()) := by
  have e0 : IntKind.i64.wrap ((i : Int) + 1) = ((i + 1 : Nat) : Int) := by rw [wrap_i64 (by omega) (by omega)]; omega
  intro n
  induction n with
  | zero =>
    intro k h hk hn
    rw [List.take_of_length_le (by simp; omega)] at hn
    unfold innT
    rw [cut_one_no hn]
    unfold ref18_inner_p5413
    refine iter_end ?_
    unfold ref18_inner_p5413b
    rw [bif_ndec (by simp only; omega)]
    rfl
  | succ n ih =>
    intro k h hk hn
    have hk2 : k < s.length := by omega
    have e1 : IntKind.i64.wrap ((k : Int) + 1) = ((k + 1 : Nat) : Int) := by rw [wrap_i64 (by omega) (by omega)]; omega
    have hg : (s.drop (i + 1))[k - (i + 1)]'(by simp; omega) = s[k] := by
      rw [List.getElem_drop]; congr 1; omega
    have hb := bL_eqb hk2 41
    unfold ref18_inner_p5413
    by_cases hc : s[k] = 41
    · unfold innT
      rw [cut_one_at (i := k - (i + 1)) (by simp; omega) (hg.trans hc) hn]
      refine iter_end ?_
      unfold ref18_inner_p5413b
      simp only
      rw [bif_dec (by omega), bif_dec (by omega), bif_dec (by omega), show (bL s (k : Int) == 41) = true from hb.trans (decide_eq_true hc), cond_true, e0, bif_dec (by omega), bif_dec (by omega), bif_dec (by omega)]
      rfl
    · refine (iter_go (s' := (s, (i : Int), ((k + 1 : Nat) : Int))) ?_).trans ?_
      · unfold ref18_inner_p5413b
        simp only
        rw [bif_dec (by omega), bif_dec (by omega), bif_dec (by omega), show (bL s (k : Int) == 41) = false from hb.trans (decide_eq_false hc), cond_false, e1]
      · refine ih (k + 1) (by omega) (by omega) ?_
        rw [show k + 1 - (i + 1) = (k - (i + 1)) + 1 by omega]
        exact notin_succ (by simp; omega) (by rw [hg]; exact hc) hn
theorem out_loop {s : By} (hs : s.length ≤ 1048576) : ∀ n i, n + i = s.length → (40 : UInt8) ∉ s.take i →
    ref18_inner_p21 (s, (i : Int)) = some (if 40 ∈ s then .inr ((innerQ s).getD [], (innerQ s).isSome) else .inl ()) := by
  intro n
  induction n with
  | zero =>
    intro i h hn
    rw [List.take_of_length_le (by omega)] at hn
    rw [if_neg hn]
    unfold ref18_inner_p21
    refine iter_end ?_
    unfold ref18_inner_p21b
    rw [bif_ndec (by simp only; omega)]
  | succ n ih =>
    intro i h hn
    have hi : i < s.length := by omega
    have e1 : IntKind.i64.wrap ((i : Int) + 1) = ((i + 1 : Nat) : Int) := by rw [wrap_i64 (by omega) (by omega)]; omega
    have hb : (bL s (i : Int) != 40) = !decide (s[i] = 40) := bL_is hi 40
    unfold ref18_inner_p21
    by_cases hc : s[i] = 40
    · rw [if_pos (by rw [← hc]; exact List.getElem_mem hi)]
      refine iter_end ?_
      unfold ref18_inner_p21b
      simp only
      rw [bif_dec (by omega), bif_dec (by omega), bif_dec (by omega), hb, decide_eq_true hc, Bool.not_true, cond_false, e1, inn_loop hs hi (s.length - (i + 1)) (i + 1) (by omega) (by omega) (by simp)]
      simp only [Option.bind_some]
      have hQ : innerQ s = innT (s.drop (i + 1)) := by unfold innerQ; rw [cut_one_at hi hc hn]
      rw [hQ]
      cases innT (s.drop (i + 1)) with
      | none => rfl
      | some u => rfl
    · refine (iter_go (s' := (s, ((i + 1 : Nat) : Int))) ?_).trans ?_
      · unfold ref18_inner_p21b
        simp only
        rw [bif_dec (by omega), bif_dec (by omega), bif_dec (by omega), hb, decide_eq_false hc, Bool.not_false, cond_true, e1]
      · exact ih (i + 1) (by omega) (notin_succ hi hc hn)
theorem innerQ_none {s : By} (h : (40 : UInt8) ∉ s) : innerQ s = none := by
  unfold innerQ
  rw [cut_one_no h]
  rfl
theorem ref_inner_eq {s : By} (hs : s.length ≤ 1048576) : ref18_inner s = some ((innerQ s).getD [], (innerQ s).isSome) := by
  unfold ref18_inner
  rw [show ((0 : Int)) = ((0 : Nat) : Int) from rfl, out_loop hs s.length 0 (by omega) (by simp)]
  by_cases h : (40 : UInt8) ∈ s
  · rw [if_pos h]; rfl
  · rw [if_neg h, innerQ_none h]; rfl
/-! ### A 229's place -/
def midOf (s : By) : By := (s.drop 3).take (s.length - 4)
def extQ : By → AskT × Bool
  | [] => errQ
  | c :: l => if mkB c = true ∧ 5 ≤ (c :: l).length ∧ (c :: l).getD 1 0 = c ∧ (c :: l).getD 2 0 = c ∧ (c :: l).getD ((c :: l).length - 1) 0 = c then (match portM (midOf (c :: l)) with | some n => (((6 : Int), ((0 : Int), (0 : Int), (0 : Int)), (n : Int)), true) | none => errQ) else errQ
theorem hasPrefix_eq (a b : By) : strings_HasPrefix a b = some (b.isPrefixOf a) := by
  unfold strings_HasPrefix i_stringslite_HasPrefix
  by_cases h : (a.length : Int) ≥ (b.length : Int)
  · rw [bif_dec h, bif_dec (by omega), bif_dec (by omega)]
    simp only [Option.bind_some, Nat.sub_zero]
    congr 1
    rw [Bool.eq_iff_iff, beq_iff_eq, List.isPrefixOf_iff_prefix, List.prefix_iff_eq_take]
    exact ⟨fun e => e.symm, fun e => e.symm⟩
  · rw [bif_ndec h]
    simp only [Option.bind_some]
    congr 1
    symm
    rw [Bool.eq_false_iff]
    intro e
    have := (List.isPrefixOf_iff_prefix.1 e).length_le
    omega
theorem hasSuffix_eq {a b : By} (ha : a.length ≤ 1048576) : strings_HasSuffix a b = some (decide (b.length ≤ a.length) && (a.drop (a.length - b.length) == b)) := by
  unfold strings_HasSuffix i_stringslite_HasSuffix
  by_cases h : (a.length : Int) ≥ (b.length : Int)
  · have w : IntKind.i64.wrap ((a.length : Int) - (b.length : Int)) = ((a.length - b.length : Nat) : Int) := by rw [wrap_i64 (by omega) (by omega)]; omega
    rw [bif_dec h, w, bif_dec (by omega), bif_dec (by omega), decide_eq_true (show b.length ≤ a.length by omega), Int.toNat_natCast, List.take_of_length_le (by simp)]
    rfl
  · rw [bif_ndec h, decide_eq_false (show ¬ b.length ≤ a.length by omega)]
    rfl
theorem last_is {s : By} {d : UInt8} (h : 1 ≤ s.length) : (s.drop (s.length - 1) == [d]) = decide (s.getD (s.length - 1) 0 = d) := by
  have hl : s.length - 1 < s.length := by omega
  rw [List.drop_eq_getElem_cons hl, List.drop_eq_nil_of_le (by omega), getD_is hl, Bool.eq_iff_iff, beq_iff_eq, decide_eq_true_eq]
  simp
theorem extQ_cons (c : UInt8) (l : By) : extQ (c :: l) = if mkB c = true ∧ 5 ≤ (c :: l).length ∧ (c :: l).getD 1 0 = c ∧ (c :: l).getD 2 0 = c ∧ (c :: l).getD ((c :: l).length - 1) 0 = c then (match portM (midOf (c :: l)) with | some n => (((6 : Int), ((0 : Int), (0 : Int), (0 : Int)), (n : Int)), true) | none => errQ) else errQ := rfl
theorem ftp_extended_eq {s : By} (hs : s.length ≤ 1048576) : ftp_extended s = some (extQ s) := by
  unfold ftp_extended ftp_extended_p11
  cases s with
  | nil => rw [mark_nil]; rfl
  | cons c l =>
    rw [mark_is, extQ_cons]
    generalize hS : c :: l = s at *
    simp only [Option.bind_some]
    cases hc : mkB c with
    | false => rw [if_neg (fun h => by cases h.1)]; rfl
    | true =>
      simp only [Bool.not_true, cond_false]
      rw [decide_eq_true (Nat.lt_of_le_of_lt (show ([c] : By).length + ([c] : By).length ≤ 2 by simp) (by decide)), decide_eq_true (Nat.lt_of_le_of_lt (show (([c] : By) ++ [c]).length + ([c] : By).length ≤ 3 by simp) (by decide))]
      simp only [cond_true]
      rw [hasPrefix_eq]
      simp only [Option.bind_some]
      by_cases h5 : 5 ≤ s.length
      · have hpre : (([c] ++ [c]) ++ [c] : By).isPrefixOf s = (decide (s.getD 1 0 = c) && decide (s.getD 2 0 = c)) := by
          subst hS
          match l, h5 with
          | x :: y :: l, _ =>
            rw [Bool.eq_iff_iff]
            simp [List.isPrefixOf]
            constructor
            · rintro ⟨a, b⟩; exact ⟨a.symm, b.symm⟩
            · rintro ⟨a, b⟩; exact ⟨a.symm, b.symm⟩
        rw [hpre]
        by_cases h1 : s.getD 1 0 = c
        · by_cases h2 : s.getD 2 0 = c
          · rw [decide_eq_true h1, decide_eq_true h2]
            simp only [Bool.and_self, Bool.not_true, cond_false]
            rw [bif_ndec (show ¬ (s.length : Int) < 5 by omega), hasSuffix_eq hs]
            simp only [Option.bind_some]
            rw [show ([c] : By).length = 1 from rfl, decide_eq_true (show 1 ≤ s.length by omega), Bool.true_and, last_is (by omega)]
            by_cases h3 : s.getD (s.length - 1) 0 = c
            · rw [decide_eq_true h3]
              simp only [Bool.not_true, cond_false, Option.bind_some, Sum.elim_inl]
              have w : IntKind.i64.wrap ((s.length : Int) - 1) = ((s.length - 1 : Nat) : Int) := by rw [wrap_i64 (by omega) (by omega)]; omega
              rw [w, bif_dec (by omega), bif_dec (by omega), Int.toNat_natCast, show s.length - 1 - 3 = s.length - 4 by omega]
              obtain ⟨z, hz, hv⟩ := port_tells (s := (s.drop 3).take (s.length - 4)) (by simp; omega)
              rw [hz, if_pos ⟨by trivial, h5, h1, h2, h3⟩]
              unfold midOf
              simp only [Option.bind_some]
              cases hm : portM ((s.drop 3).take (s.length - 4)) with
              | none => rfl
              | some n =>
                have hn := hv n hm
                subst hn
                rfl
            · rw [decide_eq_false h3, if_neg (fun h => h3 h.2.2.2.2)]
              rfl
          · rw [decide_eq_false h2, Bool.and_false, if_neg (fun h => h2 h.2.2.2.1)]
            rfl
        · rw [decide_eq_false h1, Bool.false_and, if_neg (fun h => h1 h.2.2.1)]
          rfl
      · rw [if_neg (fun h => h5 h.2.1)]
        cases (([c] ++ [c]) ++ [c] : By).isPrefixOf s with
        | false => rfl
        | true =>
          simp only [Bool.not_true, cond_false]
          rw [bif_dec (show (s.length : Int) < 5 by omega)]
          rfl
/-- What the reference says of brackets. -/
theorem ref_ext_eq {s : By} (hs : s.length ≤ 1048576) (ok : Bool) (a0 a1 a2 a3 a4 : Int) :
    ref18_Place_p45031 (s, ok, a0, a1, a2, a3, a4) = some (.inr errQ) ∧ (ok = false ∨ extQ s = errQ) ∨
    ref18_Place_p45031 (s, ok, a0, a1, a2, a3, a4) = some (.inl (s, a0, a1, a2, a3, a4)) ∧ ok = true ∧ 5 ≤ s.length ∧ extQ s = (match portM (midOf s) with | some n => (((6 : Int), ((0 : Int), (0 : Int), (0 : Int)), (n : Int)), true) | none => errQ) := by
  unfold ref18_Place_p45031
  simp only
  cases ok with
  | false => exact .inl ⟨rfl, .inl rfl⟩
  | true =>
    simp only [Bool.not_true, cond_false]
    cases s with
    | nil => exact .inl ⟨rfl, .inr rfl⟩
    | cons c l =>
      rw [extQ_cons]
      have hb : bL (c :: l) 0 = ((c.toNat : Nat) : Int) := bL_at (s := c :: l) (i := 0) (by simp)
      generalize hS : c :: l = s at *
      by_cases h5 : 5 ≤ s.length
      · rw [bif_ndec (show ¬ (s.length : Int) < 5 by omega), bif_dec (show (0 : Int) < (s.length : Int) by omega)]
        rw [hb, Int.toNat_natCast, ofNat_toNat8, ref_mark_is]
        simp only [Option.bind_some]
        cases hc : mkB c with
        | false => exact .inl ⟨rfl, .inr (if_neg (fun h => by cases h.1))⟩
        | true =>
          simp only [Bool.not_true, cond_false]
          have q : ∀ i, i < s.length → (bL s (i : Int) != ((c.toNat : Nat) : Int)) = !decide (s.getD i 0 = c) := fun i hi => by rw [bL_is hi, getD_is hi]
          rw [bif_dec (show (1 : Int) < (s.length : Int) by omega)]
          rw [show (bL s 1 != ((c.toNat : Nat) : Int)) = !decide (s.getD 1 0 = c) from q 1 (by omega), bif_dec (show (0 : Int) < (s.length : Int) by omega)]
          by_cases h1 : s.getD 1 0 = c
          · rw [decide_eq_true h1]
            simp only [Bool.not_true, cond_false]
            rw [bif_dec (show (2 : Int) < (s.length : Int) by omega), bif_dec (show (0 : Int) < (s.length : Int) by omega), show (bL s 2 != ((c.toNat : Nat) : Int)) = !decide (s.getD 2 0 = c) from q 2 (by omega)]
            by_cases h2 : s.getD 2 0 = c
            · rw [decide_eq_true h2]
              simp only [Bool.not_true, cond_false]
              have w : IntKind.i64.wrap ((s.length : Int) - 1) = ((s.length - 1 : Nat) : Int) := by rw [wrap_i64 (by omega) (by omega)]; omega
              rw [w, bif_dec (show (0 : Int) ≤ ((s.length - 1 : Nat) : Int) by omega), bif_dec (show ((s.length - 1 : Nat) : Int) < (s.length : Int) by omega), bif_dec (show (0 : Int) < (s.length : Int) by omega), q (s.length - 1) (by omega)]
              by_cases h3 : s.getD (s.length - 1) 0 = c
              · rw [decide_eq_true h3]
                simp only [Bool.not_true, cond_false]
                rw [bif_dec (show (3 : Int) ≤ ((s.length - 1 : Nat) : Int) by omega), bif_dec (show ((s.length - 1 : Nat) : Int) ≤ (s.length : Int) by omega), Int.toNat_natCast, show s.length - 1 - 3 = s.length - 4 by omega]
                rw [ref_digits_eq (s := (s.drop 3).take (s.length - 4)) (by simp; omega), if_pos ⟨by trivial, h5, h1, h2, h3⟩]
                simp only [Option.bind_some]
                unfold midOf
                cases hd : (!((s.drop 3).take (s.length - 4) == []) && ((s.drop 3).take (s.length - 4)).all isDig) with
                | false =>
                  refine .inl ⟨rfl, .inr ?_⟩
                  cases hm : portM ((s.drop 3).take (s.length - 4)) with
                  | none => rfl
                  | some n => rw [portM_digits hm] at hd; cases hd
                | true => exact .inr ⟨rfl, by trivial, by trivial, by first | trivial | rfl⟩
              · rw [decide_eq_false h3]
                exact .inl ⟨rfl, .inr (if_neg (fun h => h3 h.2.2.2.2))⟩
            · rw [decide_eq_false h2]
              exact .inl ⟨rfl, .inr (if_neg (fun h => h2 h.2.2.2.1))⟩
          · rw [decide_eq_false h1]
            exact .inl ⟨rfl, .inr (if_neg (fun h => h1 h.2.2.1))⟩
      · rw [bif_dec (show (s.length : Int) < 5 by omega)]
        exact .inl ⟨rfl, .inr (if_neg (fun h => h5 h.2.1))⟩
end Go.Proofs.YtpkhlncohbakkaaGreatDoor.Jv
