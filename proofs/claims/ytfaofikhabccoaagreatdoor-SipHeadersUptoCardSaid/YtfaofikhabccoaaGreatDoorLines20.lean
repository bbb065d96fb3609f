/- The lines of a text, by both; conditions: none. -/
import Derived.Test.YtfaofikhabccoaaGreatDoorFns
import Derived.Test.YtfaofikhabccoaaGreatDoorJvNum
namespace Go.Proofs.YtfaofikhabccoaaGreatDoor.Jv
open Go
set_option linter.unusedSectionVars false
set_option linter.unusedVariables false
set_option linter.unusedSimpArgs false
abbrev By := List UInt8
def crlf : By := [13, 10]
/-- The lines of a text. -/
def lnsF : Nat → By → List By
  | 0, _ => []
  | n + 1, s => if Lib.index s crlf = -1 then [] else s.take (Lib.index s crlf).toNat :: lnsF n (s.drop ((Lib.index s crlf).toNat + 2))
theorem split_lns : ∀ (n : Nat) (s : By), s.length ≤ n → ∃ r, Lib.splitK crlf 0 (Lib.count s crlf) s = lnsF n s ++ [r]
  | 0, s, h => by
    have : s = [] := List.eq_nil_of_length_eq_zero (by omega)
    subst this
    exact ⟨[], rfl⟩
  | n + 1, s, h => by
    rcases Lib.index_spec s crlf with ⟨h1, _⟩ | ⟨i, h1, h2, h3, _⟩
    · refine ⟨s, ?_⟩
      rw [Lib.count_miss h1, lnsF, if_pos h1]
      rfl
    · have hroom := Lib.index_room s crlf (by rw [h1]; omega)
      rw [h1] at hroom
      have hc : crlf.length = 2 := rfl
      obtain ⟨r, hr⟩ := split_lns n (s.drop (i + 2)) (by simp; omega)
      refine ⟨r, ?_⟩
      rw [Lib.count_hit (by simp [crlf]) h1, Nat.add_comm 1, Lib.splitK, h1, lnsF, h1]
      have e2 : ((i : Int) == -1) = false := by rw [beq_eq_false_iff_ne]; omega
      rw [e2, if_neg (show ¬ ((i : Int) = -1) by omega)]
      simp only [Int.toNat_natCast, Nat.add_zero, hc]
      rw [hr]
      rfl
theorem fits_of {n b : Nat} (hn : n ≤ 33554432) (hb : b ≤ 64) : fits n b = true := by
  unfold fits
  have : n * (b + 1) ≤ 33554432 * 65 := Nat.mul_le_mul hn (by omega)
  exact decide_eq_true (Nat.lt_of_le_of_lt this (by decide))
theorem occ_crlf {s : By} {i : Nat} (h : i + 1 < s.length) : Lib.occAt s crlf i = (decide (s[i] = 13) && decide (s[i + 1] = 10)) := by
  unfold Lib.occAt crlf
  rw [List.drop_eq_getElem_cons (show i < s.length by omega), List.drop_eq_getElem_cons h]
  simp only [List.isPrefixOf, Bool.and_true]
  congr 1
  · rw [Bool.eq_iff_iff, beq_iff_eq, decide_eq_true_eq]; exact eq_comm
  · rw [Bool.eq_iff_iff, beq_iff_eq, decide_eq_true_eq]; exact eq_comm
theorem byte_is (x c : UInt8) : (((x.toNat : Nat) : Int) == ((c.toNat : Nat) : Int)) = decide (x = c) := by
  by_cases h : x = c
  · subst h; simp
  · rw [decide_eq_false h, beq_eq_false_iff_ne]
    intro e
    exact h (UInt8.toNat_inj.1 (by omega))
theorem ref_lines_loop {s : By} (hs : s.length ≤ 4194304) : ∀ k i fr n (l : List By), s.length - i ≤ k → i ≤ s.length → fr ≤ i → s.length - fr ≤ n → Lib.NoOcc (s.drop fr) crlf (i - fr) → l.length ≤ i →
    ref18_Lines_p87 (s, (fr : Int), (i : Int), l) = some (l ++ lnsF n (s.drop fr)) := by
  intro k
  induction k with
  | zero =>
    intro i fr n l h1 h2 h3 h4 h5 h6
    have hix : Lib.index (s.drop fr) crlf = -1 := Lib.index_past (by simp [crlf]) h5 (by simp [crlf]; omega)
    have hn : lnsF n (s.drop fr) = [] := by
      cases n with
      | zero => rfl
      | succ n => unfold lnsF; rw [if_pos hix]
    rw [hn, List.append_nil]
    unfold ref18_Lines_p87
    refine iter_end ?_
    unfold ref18_Lines_p87b
    simp only
    rw [wrap_i64 (by omega) (by omega), bif_ndec (by omega)]
  | succ k ih =>
    intro i fr n l h1 h2 h3 h4 h5 h6
    have e1 : IntKind.i64.wrap ((i : Int) + 1) = ((i + 1 : Nat) : Int) := by rw [wrap_i64 (by omega) (by omega)]; omega
    have e2 : IntKind.i64.wrap ((i : Int) + 2) = ((i + 2 : Nat) : Int) := by rw [wrap_i64 (by omega) (by omega)]; omega
    have e3 : IntKind.i64.wrap (((i + 1 : Nat) : Int) + 1) = ((i + 2 : Nat) : Int) := by rw [wrap_i64 (by omega) (by omega)]; omega
    by_cases hl : i + 1 < s.length
    · have hi : i < s.length := by omega
      have ho : Lib.occAt (s.drop fr) crlf (i - fr) = (decide (s[i] = 13) && decide (s[i + 1] = 10)) := by
        have := occ_crlf (s := s.drop fr) (i := i - fr) (by simp; omega)
        rw [this]
        simp only [List.getElem_drop]
        congr 2
        · congr 2; omega
        · congr 2; omega
      have hb1 : (((s[i].toNat : Nat) : Int) == 13) = decide (s[i] = 13) := byte_is s[i] 13
      have hb2 : (((s[i + 1].toNat : Nat) : Int) == 10) = decide (s[i + 1] = 10) := byte_is s[i + 1] 10
      by_cases hm : s[i] = 13 ∧ s[i + 1] = 10
      · have ho' : Lib.occAt (s.drop fr) crlf (i - fr) = true := by rw [ho, decide_eq_true hm.1, decide_eq_true hm.2]; rfl
        have hix : Lib.index (s.drop fr) crlf = ((i - fr : Nat) : Int) := Lib.index_hit h5 (by simp; omega) ho'
        obtain ⟨n, rfl⟩ : ∃ m, n = m + 1 := ⟨n - 1, by omega⟩
        have := ih (i + 2) (i + 2) n (l ++ [(s.drop fr).take (i - fr)]) (by omega) (by omega) (by omega) (by omega) (by rw [Nat.sub_self]; exact Lib.NoOcc.zero _ _) (by simp; omega)
        rw [lnsF, hix, if_neg (by omega), Int.toNat_natCast, List.drop_drop, show fr + (i - fr + 2) = i + 2 by omega, List.append_cons, ← this]
        unfold ref18_Lines_p87
        refine iter_go ?_
        unfold ref18_Lines_p87b
        simp only
        rw [e1, bif_dec (by omega), bif_dec (by omega), Int.toNat_natCast, List.getElem?_eq_getElem hi]
        simp only [Option.bind_some]
        rw [hb1, decide_eq_true hm.1, cond_true, bif_dec (by omega), Int.toNat_natCast, List.getElem?_eq_getElem hl]
        simp only [Option.bind_some]
        rw [hb2, decide_eq_true hm.2, cond_true, bif_dec (by omega), bif_dec (by omega), bif_dec (by omega), fits_of (by omega) (by decide), e2, e3]
        simp only [cond_true, Int.toNat_natCast]
      · have ho' : Lib.occAt (s.drop fr) crlf (i - fr) = false := by
          rw [ho]
          simp only [Bool.and_eq_false_iff, decide_eq_false_iff_not]
          by_cases h : s[i] = 13
          · exact .inr fun e => hm ⟨h, e⟩
          · exact .inl h
        have hno : Lib.NoOcc (s.drop fr) crlf (i + 1 - fr) := by
          rw [show i + 1 - fr = (i - fr) + 1 by omega]
          exact h5.succ ho'
        rw [← ih (i + 1) fr n l (by omega) (by omega) (by omega) h4 hno (by omega)]
        unfold ref18_Lines_p87
        refine iter_go ?_
        unfold ref18_Lines_p87b
        simp only
        rw [e1, bif_dec (by omega), bif_dec (by omega), Int.toNat_natCast, List.getElem?_eq_getElem hi]
        simp only [Option.bind_some]
        rw [hb1]
        by_cases h13 : s[i] = 13
        · have h10 : s[i + 1] ≠ 10 := fun e => hm ⟨h13, e⟩
          rw [decide_eq_true h13, cond_true, bif_dec (by omega), Int.toNat_natCast, List.getElem?_eq_getElem hl]
          simp only [Option.bind_some]
          rw [hb2, decide_eq_false h10, cond_false]
        · rw [decide_eq_false h13, cond_false]
    · have hix : Lib.index (s.drop fr) crlf = -1 := Lib.index_past (by simp [crlf]) h5 (by simp [crlf]; omega)
      have hn : lnsF n (s.drop fr) = [] := by
        cases n with
        | zero => rfl
        | succ n => unfold lnsF; rw [if_pos hix]
      rw [hn, List.append_nil]
      unfold ref18_Lines_p87
      refine iter_end ?_
      unfold ref18_Lines_p87b
      simp only
      rw [e1, bif_ndec (by omega)]
theorem ref_lines_eq {s : By} (hs : s.length ≤ 4194304) : ref18_Lines s = some (lnsF s.length s) := by
  unfold ref18_Lines
  have := ref_lines_loop hs s.length 0 0 s.length [] (by omega) (by omega) (by omega) (by omega) (Lib.NoOcc.zero _ _) (by simp)
  rw [List.drop_zero, List.nil_append] at this
  rw [show ref18_Lines_p87 (s, 0, 0, []) = _ from this]
  rfl
theorem lns_len : ∀ (n : Nat) (s : By), (lnsF n s).length ≤ n := by
  intro n
  induction n with
  | zero => intro s; simp [lnsF]
  | succ n ih =>
    intro s
    unfold lnsF
    split
    · simp
    · have := ih (s.drop ((Lib.index s crlf).toNat + 2)); simp; omega
theorem bulk_bytes {l : By} (h : bulkT (.sl .u8) l ≤ 1048576) : l.length ≤ 1048576 := by
  have e : ∀ l : By, (l.map (bulkT .u8)).sum = l.length := by
    intro l
    induction l with
    | nil => rfl
    | cons a l ih => rw [List.map_cons, List.sum_cons, ih, List.length_cons]; show 1 + l.length = l.length + 1; omega
  have h' : (l.map (bulkT .u8)).sum + 1 ≤ 1048576 := h
  rw [e] at h'
  omega
end Go.Proofs.YtfaofikhabccoaaGreatDoor.Jv
