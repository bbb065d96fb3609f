/- Layer 19: what the two texts' functions are, as one plain reading; conditions: none. -/
import Derived.Test.YtdhogcppmnfekaaDoorFns
import Derived.Test.YtdhogcppmnfekaaDoorJvNum
import Derived.Lib.TrimAscii
import Derived.Lib.MapLaws
namespace Go.Proofs.YtdhogcppmnfekaaDoor.Jv
open Go
set_option linter.unusedVariables false
set_option linter.unusedSimpArgs false
abbrev By := List UInt8
/-! ### Small words -/
theorem dlt {a b : Nat} (h : a < b) : decide ((a : Int) < (b : Int)) = true := decide_eq_true (by omega)
theorem ndlt {a b : Nat} (h : ¬ a < b) : decide ((a : Int) < (b : Int)) = false := decide_eq_false (by omega)
theorem dle {a b : Nat} (h : a ≤ b) : decide ((a : Int) ≤ (b : Int)) = true := decide_eq_true (by omega)
theorem d0 (a : Nat) : decide ((0 : Int) ≤ (a : Int)) = true := decide_eq_true (by omega)
theorem wrapS {a : Nat} (h : a < 4611686018427387904) : IntKind.i64.wrap ((a : Int) + 1) = ((a + 1 : Nat) : Int) := by
  rw [wrap_i64 (by omega) (by omega)]; omega
theorem fits_ok {n b : Nat} (h : n ≤ 8388608) (hb : b ≤ 64) : fits n b = true := by
  unfold fits
  refine decide_eq_true ?_
  have h1 : n * (b + 1) ≤ 8388608 * 65 := Nat.mul_le_mul h (by omega)
  omega
/-! ### Parts -/
/-- Up to the first 0, and what is behind. -/
def spl : By → Option (By × By)
  | [] => none
  | c :: l => if c = 0 then some ([], l) else (spl l).map fun p => (c :: p.1, p.2)
theorem spl_len : ∀ {b : By} {p : By × By}, spl b = some p → p.1.length + p.2.length + 1 = b.length
  | [], _, h => by cases h
  | c :: l, p, h => by
    unfold spl at h
    split at h
    · cases h; simp
    · cases hl : spl l with
      | none => rw [hl] at h; cases h
      | some q =>
        rw [hl] at h
        cases h
        have := spl_len hl
        simp only [List.length_cons]
        omega
theorem spl_eq : ∀ {b : By} {p : By × By}, spl b = some p → b = p.1 ++ 0 :: p.2 ∧ ∀ c ∈ p.1, c ≠ 0
  | [], _, h => by cases h
  | c :: l, p, h => by
    unfold spl at h
    split at h
    · rename_i hc; cases h; subst hc; simp
    · rename_i hc
      cases hl : spl l with
      | none => rw [hl] at h; cases h
      | some q =>
        rw [hl] at h
        cases h
        obtain ⟨h1, h2⟩ := spl_eq hl
        refine ⟨by simp [← h1], fun d hd => ?_⟩
        rcases List.mem_cons.1 hd with e | e
        · subst e; exact hc
        · exact h2 d e
theorem spl_of : ∀ (a r : By), (∀ c ∈ a, c ≠ 0) → spl (a ++ 0 :: r) = some (a, r)
  | [], r, _ => by simp [spl]
  | c :: a, r, h => by
    rw [List.cons_append, spl, if_neg (h c (by simp)), spl_of a r fun d hd => h d (by simp [hd])]
    rfl
theorem spl_none : ∀ {b : By}, spl b = none → ∀ c ∈ b, c ≠ 0
  | [], _, c, hc => by cases hc
  | d :: l, h, c, hc => by
    unfold spl at h
    split at h
    · cases h
    · rename_i hd
      cases hl : spl l with
      | some q => rw [hl] at h; cases h
      | none =>
        rcases List.mem_cons.1 hc with e | e
        · subst e; exact hd
        · exact spl_none hl c e
theorem spl_no : ∀ {b : By}, (∀ c ∈ b, c ≠ 0) → spl b = none
  | [], _ => rfl
  | d :: l, h => by rw [spl, if_neg (h d (by simp)), spl_no fun c hc => h c (by simp [hc])]; rfl
/-- A part of a length that may be. -/
def prt (b : By) : Option (By × By) := match spl b with
  | some p => if 1 ≤ p.1.length ∧ p.1.length ≤ 128 then some p else none
  | none => none
theorem prt_spl {b : By} {p : By × By} (h : prt b = some p) : spl b = some p ∧ 1 ≤ p.1.length ∧ p.1.length ≤ 128 := by
  unfold prt at h
  split at h
  · rename_i q hq
    split at h
    · rename_i hc; cases h; exact ⟨hq, hc⟩
    · cases h
  · cases h
theorem index0 : ∀ b : By, Lib.index b [0] = (match spl b with | some p => (p.1.length : Int) | none => -1)
  | [] => rfl
  | c :: l => by
    rw [Lib.index, index0 l, spl]
    by_cases hc : c = 0
    · subst hc; simp
    · have : ([0] : By).isPrefixOf (c :: l) = false := by
        simp only [List.isPrefixOf, Bool.and_true, beq_eq_false_iff_ne]
        exact fun e => hc e.symm
      rw [this, if_neg hc]
      cases spl l with
      | none => simp
      | some p =>
        simp only [Option.map_some, List.length_cons, Bool.false_eq_true, if_false]
        rw [if_neg (by simp)]
        simp
theorem cut0 (b : By) : Lib.cut b [0] = (match spl b with | some p => (p.1, p.2, true) | none => (b, [], false)) := by
  unfold Lib.cut
  rw [index0]
  cases h : spl b with
  | none => simp
  | some p =>
    obtain ⟨h1, _⟩ := spl_eq h
    simp only
    rw [if_pos (by omega)]
    have e : b = (p.1 ++ [0]) ++ p.2 := by rw [h1]; simp
    congr 1
    · conv => lhs; rw [h1]
      simp
    · congr 1
      conv => lhs; rw [e]
      rw [List.drop_left']
      simp
theorem cut_eq {b : By} (hb : b.length < 4294967281) : tftp_cut b = some (match spl b with
    | some p => (p.1, p.2, decide (1 ≤ p.1.length ∧ p.1.length ≤ 128)) | none => (b, [], false)) := by
  unfold tftp_cut bytes_Cut
  rw [decide_eq_true hb, show decide (([0] : By).length = 1) = true by decide]
  simp only [Bool.and_true, cond_true, Option.bind_some]
  rw [cut0]
  cases spl b with
  | none => simp
  | some p =>
    simp only [cond_true]
    by_cases h1 : 1 ≤ p.1.length
    · rw [show decide ((p.1.length : Int) ≥ 1) = true from decide_eq_true (by omega)]
      simp only [cond_true, h1, true_and]
      congr 4
      simp
      omega
    · rw [show decide ((p.1.length : Int) ≥ 1) = false from decide_eq_false (by omega)]
      simp [h1]
theorem cut_some {b : By} {p : By × By} (hb : b.length < 4294967281) (h : prt b = some p) : tftp_cut b = some (p.1, p.2, true) := by
  obtain ⟨h1, h2⟩ := prt_spl h
  rw [cut_eq hb, h1]
  simp [h2]
theorem cut_none {b : By} (hb : b.length < 4294967281) (h : prt b = none) : ∃ x y, tftp_cut b = some (x, y, false) ∧ x.length ≤ b.length ∧ y.length ≤ b.length := by
  rw [cut_eq hb]
  unfold prt at h
  cases hs : spl b with
  | none => exact ⟨b, [], rfl, Nat.le_refl _, Nat.zero_le _⟩
  | some p =>
    rw [hs] at h
    simp only at h
    split at h
    · cases h
    · rename_i hn
      have := spl_len hs
      exact ⟨p.1, p.2, by simp [hn], by omega, by omega⟩
theorem part_loop (b : By) (hb : b.length < 4294967281) : ∀ (k i : Nat), i + k = b.length → ref19_part_p21 (b, (i : Int)) = some (match spl (b.drop i) with
    | some p => .inr (b.take i ++ p.1, p.2, decide (1 ≤ i + p.1.length ∧ i + p.1.length ≤ 128)) | none => .inl ()) := by
  intro k
  induction k with
  | zero =>
    intro i hi
    have hi' : i = b.length := by omega
    subst hi'
    rw [List.drop_length]
    refine iter_end ?_
    unfold ref19_part_p21b
    simp only [ndlt (Nat.lt_irrefl _), cond_false]
    rfl
  | succ k ih =>
    intro i hi
    have hlt : i < b.length := by omega
    have hd := List.drop_eq_getElem_cons hlt
    have hg : b[i]? = some b[i] := List.getElem?_eq_getElem hlt
    by_cases hc : b[i] = 0
    · refine iter_end ?_
      unfold ref19_part_p21b
      rw [hd, spl, if_pos hc]
      simp only [dlt hlt, d0, cond_true, Int.toNat_natCast, hg, Option.bind_some, hc, wrapS (show i < 4611686018427387904 by omega), dle (Nat.le_of_lt hlt), dle (show i + 1 ≤ b.length by omega), Nat.sub_zero, List.append_nil, List.length_nil, Nat.add_zero]
      rw [show (((0 : UInt8).toNat : Int) == 0) = true from rfl]
      simp only [cond_true]
      rw [List.take_of_length_le (l := b.drop (i + 1)) (by simp)]
      by_cases h1 : 1 ≤ i
      · rw [show decide ((i : Int) ≥ 1) = true from decide_eq_true (by omega)]
        simp only [cond_true, h1, true_and]
        congr 6
        simp
        omega
      · rw [show decide ((i : Int) ≥ 1) = false from decide_eq_false (by omega)]
        simp [h1]
    · have hstep : ref19_part_p21b (b, (i : Int)) = some (.inl (b, ((i + 1 : Nat) : Int))) := by
        unfold ref19_part_p21b
        simp only [dlt hlt, d0, cond_true, Int.toNat_natCast, hg, Option.bind_some, wrapS (show i < 4611686018427387904 by omega)]
        have : ((b[i].toNat : Int) == 0) = false := by
          simp only [beq_eq_false_iff_ne, ne_eq]
          intro e
          exact hc (UInt8.toNat_inj.1 (by simpa using e))
        rw [this]
        rfl
      refine (iter_go hstep).trans ((ih (i + 1) (by omega)).trans ?_)
      rw [hd, spl, if_neg hc]
      cases spl (b.drop (i + 1)) with
      | none => rfl
      | some p =>
        simp only [Option.map_some, List.length_cons]
        congr 3
        · rw [List.take_add_one, hg, List.append_assoc]; rfl
        · congr 1
          rw [Nat.add_assoc, Nat.add_comm 1]
theorem part_eq {b : By} (hb : b.length < 4294967281) : ref19_part b = some (match spl b with
    | some p => (p.1, p.2, decide (1 ≤ p.1.length ∧ p.1.length ≤ 128)) | none => ([], [], false)) := by
  unfold ref19_part
  have h := part_loop b hb b.length 0 (by simp)
  simp only [List.drop_zero, List.take_zero, List.nil_append, Nat.zero_add] at h
  rw [show ((0 : Nat) : Int) = 0 from rfl] at h
  rw [h]
  cases spl b with
  | none => rfl
  | some p => rfl
theorem part_some {b : By} {p : By × By} (hb : b.length < 4294967281) (h : prt b = some p) : ref19_part b = some (p.1, p.2, true) := by
  obtain ⟨h1, h2⟩ := prt_spl h
  rw [part_eq hb, h1]
  simp [h2]
theorem part_none {b : By} (hb : b.length < 4294967281) (h : prt b = none) : ∃ x y, ref19_part b = some (x, y, false) := by
  rw [part_eq hb]
  unfold prt at h
  cases hs : spl b with
  | none => exact ⟨[], [], rfl⟩
  | some p =>
    rw [hs] at h
    simp only at h
    split at h
    · cases h
    · rename_i hn
      exact ⟨p.1, p.2, by simp [hn]⟩
/-! ### Texts that can be read -/
def printable (c : UInt8) : Bool := decide (32 ≤ c.toNat) && decide (c.toNat ≤ 126)
theorem bL_get {s : By} {i : Nat} (h : i < s.length) : bL s (i : Int) = (s[i].toNat : Int) := by
  unfold bL
  simp [List.getD_eq_getElem?_getD, List.getElem?_eq_getElem h]
theorem plain_loop (s : By) (hb : s.length < 4294967281) : ∀ (k i : Nat), i + k = s.length → tftp_plain_p21 (s, (s.length : Int), (i : Int)) = some (if (s.drop i).all printable then .inl () else .inr false) := by
  intro k
  induction k with
  | zero =>
    intro i hi
    have hi' : i = s.length := by omega
    subst hi'
    rw [List.drop_length]
    refine iter_end ?_
    unfold tftp_plain_p21b
    simp only [ndlt (Nat.lt_irrefl _), cond_false]
    rfl
  | succ k ih =>
    intro i hi
    have hlt : i < s.length := by omega
    have hd := List.drop_eq_getElem_cons hlt
    rw [hd, List.all_cons]
    by_cases h1 : s[i].toNat < 32
    · rw [show printable s[i] = false from by unfold printable; rw [decide_eq_false (by omega)]; rfl]
      refine iter_end ?_
      unfold tftp_plain_p21b
      simp only [dlt hlt, d0, cond_true, bL_get hlt]
      rw [show decide ((s[i].toNat : Int) < 32) = true from decide_eq_true (by omega)]
      rfl
    · by_cases h2 : 126 < s[i].toNat
      · rw [show printable s[i] = false from by unfold printable; rw [decide_eq_false (p := s[i].toNat ≤ 126) (by omega)]; simp]
        refine iter_end ?_
        unfold tftp_plain_p21b
        simp only [dlt hlt, d0, cond_true, bL_get hlt]
        rw [show decide ((s[i].toNat : Int) < 32) = false from decide_eq_false (by omega), show decide ((s[i].toNat : Int) > 126) = true from decide_eq_true (by omega)]
        rfl
      · rw [show printable s[i] = true from by unfold printable; rw [decide_eq_true (by omega), decide_eq_true (by omega)]; rfl]
        have hstep : tftp_plain_p21b (s, (s.length : Int), (i : Int)) = some (.inl (s, (s.length : Int), ((i + 1 : Nat) : Int))) := by
          unfold tftp_plain_p21b
          simp only [dlt hlt, d0, cond_true, bL_get hlt, wrapS (show i < 4611686018427387904 by omega)]
          rw [show decide ((s[i].toNat : Int) < 32) = false from decide_eq_false (by omega), show decide ((s[i].toNat : Int) > 126) = false from decide_eq_false (by omega)]
          rfl
        exact (iter_go hstep).trans (ih (i + 1) (by omega))
theorem plain_eq {s : By} (hb : s.length < 4294967281) : tftp_plain s = some (s.all printable) := by
  unfold tftp_plain
  have h := plain_loop s hb s.length 0 (by simp)
  rw [show ((0 : Nat) : Int) = 0 from rfl, List.drop_zero] at h
  rw [h]
  cases s.all printable <;> rfl
theorem name_loop (s : By) (hb : s.length < 4294967281) : ∀ (k i : Nat), i + k = s.length → ref19_name_p21 (s, (i : Int)) = some (if (s.drop i).all printable then .inl () else .inr false) := by
  intro k
  induction k with
  | zero =>
    intro i hi
    have hi' : i = s.length := by omega
    subst hi'
    rw [List.drop_length]
    refine iter_end ?_
    unfold ref19_name_p21b
    simp only [ndlt (Nat.lt_irrefl _), cond_false]
    rfl
  | succ k ih =>
    intro i hi
    have hlt : i < s.length := by omega
    have hd := List.drop_eq_getElem_cons hlt
    rw [hd, List.all_cons]
    by_cases h1 : s[i].toNat < 32
    · rw [show printable s[i] = false from by unfold printable; rw [decide_eq_false (by omega)]; rfl]
      refine iter_end ?_
      unfold ref19_name_p21b
      simp only [dlt hlt, d0, cond_true, bL_get hlt]
      rw [show decide ((s[i].toNat : Int) < 32) = true from decide_eq_true (by omega)]
      rfl
    · by_cases h2 : 126 < s[i].toNat
      · rw [show printable s[i] = false from by unfold printable; rw [decide_eq_false (p := s[i].toNat ≤ 126) (by omega)]; simp]
        refine iter_end ?_
        unfold ref19_name_p21b
        simp only [dlt hlt, d0, cond_true, bL_get hlt]
        rw [show decide ((s[i].toNat : Int) < 32) = false from decide_eq_false (by omega), show decide ((s[i].toNat : Int) > 126) = true from decide_eq_true (by omega)]
        rfl
      · rw [show printable s[i] = true from by unfold printable; rw [decide_eq_true (by omega), decide_eq_true (by omega)]; rfl]
        have hstep : ref19_name_p21b (s, (i : Int)) = some (.inl (s, ((i + 1 : Nat) : Int))) := by
          unfold ref19_name_p21b
          simp only [dlt hlt, d0, cond_true, bL_get hlt, wrapS (show i < 4611686018427387904 by omega)]
          rw [show decide ((s[i].toNat : Int) < 32) = false from decide_eq_false (by omega), show decide ((s[i].toNat : Int) > 126) = false from decide_eq_false (by omega)]
          rfl
        exact (iter_go hstep).trans (ih (i + 1) (by omega))
theorem name_eq {s : By} (hb : s.length < 4294967281) : ref19_name s = some (s.all printable) := by
  unfold ref19_name
  have h := name_loop s hb s.length 0 (by simp)
  rw [show ((0 : Nat) : Int) = 0 from rfl, List.drop_zero] at h
  rw [h]
  cases s.all printable <;> rfl
end Go.Proofs.YtdhogcppmnfekaaDoor.Jv
