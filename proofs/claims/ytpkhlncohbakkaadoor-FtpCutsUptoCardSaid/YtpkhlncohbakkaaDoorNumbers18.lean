/- Numbers out of texts, by the program; conditions: none. -/
import Derived.Test.YtpkhlncohbakkaaDoorParts18
namespace Go.Proofs.YtpkhlncohbakkaaDoor.Jv
open Go
set_option linter.unusedSectionVars false
set_option linter.unusedVariables false
set_option linter.unusedSimpArgs false
/-- What a sign is worth. -/
def dv (c : UInt8) : Nat := if 48 ≤ c.toNat ∧ c.toNat ≤ 57 then c.toNat - 48 else if 97 ≤ c.toNat ∧ c.toNat ≤ 102 then c.toNat - 87 else if 65 ≤ c.toNat ∧ c.toNat ≤ 70 then c.toNat - 55 else 99
/-- A number in a base, if it is at most m. -/
def refN (b m : Nat) : Nat → By → Option Nat
  | n, [] => some n
  | n, c :: l => if b ≤ dv c then none else if m < n * b + dv c then none else refN b m (n * b + dv c) l
theorem refN_le {b m : Nat} : ∀ {l : By} {n v : Nat}, n ≤ m → refN b m n l = some v → v ≤ m
  | [], n, v, hn, h => by cases h; exact hn
  | c :: l, n, v, hn, h => by
    unfold refN at h
    split at h
    · cases h
    · split at h
      · cases h
      · exact refN_le (by omega) h
theorem refN_bad {b m : Nat} : ∀ {l : By} (n : Nat), (∃ c ∈ l, b ≤ dv c) → refN b m n l = none
  | [], n, h => by obtain ⟨c, hc, _⟩ := h; cases hc
  | c :: l, n, ⟨x, hx, hb⟩ => by
    unfold refN
    split
    · rfl
    · split
      · rfl
      · rcases List.mem_cons.1 hx with e | e
        · subst e; contradiction
        · exact refN_bad _ ⟨x, e, hb⟩
/-- A number in base 10 without a needless 0 ahead. -/
def decM (m : Nat) (s : By) : Option Nat := if s = [] ∨ (1 < s.length ∧ s[0]? = some 48) then none else refN 10 m 0 s
/-- A group: up to four signs of base 16. -/
def hexM (s : By) : Option Nat := if s = [] ∨ 4 < s.length then none else refN 16 65535 0 s
/-- What a function tells that gives a number or none. -/
def Tells (r : Option (Int × Bool)) (o : Option Nat) : Prop := ∃ x : Int, r = some (x, o.isSome) ∧ ∀ n, o = some n → x = (n : Int)
/-! ### The program's decimal -/
def isDig (c : UInt8) : Bool := decide (48 ≤ c.toNat) && decide (c.toNat ≤ 57)
theorem dec_loop {s : By} (m : Int) : ∀ k i, i + k = s.length → addr_decimal_p21 (s, m, s, i) = some (if (s.drop i).all isDig then .inl (s, m) else .inr (0, false)) := by
  intro k
  induction k with
  | zero =>
    intro i h1
    unfold addr_decimal_p21
    refine iter_end ?_
    unfold addr_decimal_p21b
    rw [bif_ndec (by simp only; omega), List.drop_eq_nil_of_le (by omega)]
    rfl
  | succ k ih =>
    intro i h1
    have hi : i < s.length := by omega
    rw [List.drop_eq_getElem_cons hi, List.all_cons]
    unfold addr_decimal_p21
    by_cases hd : isDig s[i] = true
    · have hd' := hd
      simp only [isDig, Bool.and_eq_true, decide_eq_true_eq] at hd'
      rw [hd, Bool.true_and]
      refine Eq.trans (iter_go ?_) (ih (i + 1) (by omega))
      unfold addr_decimal_p21b
      simp only
      rw [bif_dec (by omega), decode_low hi (by omega)]
      simp only
      rw [bif_ndec (by omega), bif_ndec (by omega)]
    · have hd2 : isDig s[i] = false := by simpa using hd
      rw [hd2, Bool.false_and]
      refine iter_end ?_
      unfold addr_decimal_p21b
      simp only
      rw [bif_dec (by omega)]
      have hr : ((Utf8.decode ⟨⟨s⟩⟩ i).1 : Int) < 48 ∨ ((Utf8.decode ⟨⟨s⟩⟩ i).1 : Int) > 57 := by
        by_cases h128 : s[i].toNat < 128
        · rw [decode_low hi h128]
          simp only [isDig, Bool.and_eq_false_iff, decide_eq_false_iff_not] at hd2
          simp only
          omega
        · have := decode_high hi h128
          omega
      by_cases h48 : ((Utf8.decode ⟨⟨s⟩⟩ i).1 : Int) < 48
      · rw [bif_dec h48]; rfl
      · rw [bif_ndec h48, bif_dec (by omega)]; rfl
theorem dv_dig {c : UInt8} (h : isDig c = true) : dv c = c.toNat - 48 ∧ 48 ≤ c.toNat ∧ c.toNat ≤ 57 := by
  simp only [isDig, Bool.and_eq_true, decide_eq_true_eq] at h
  unfold dv
  rw [if_pos h]
  exact ⟨rfl, h⟩
theorem dv_not {c : UInt8} (h : isDig c = false) : 10 ≤ dv c := by
  simp only [isDig, Bool.and_eq_false_iff, decide_eq_false_iff_not] at h
  unfold dv
  split
  · omega
  · split
    · omega
    · split <;> omega
theorem parse_ge : ∀ {l : By} {a u : Nat}, Lib.parseUint10 a l = .ok u → a ≤ u
  | [], a, u, h => by simp only [Lib.parseUint10] at h; injection h with h; omega
  | c :: l, a, u, h => by
    simp only [Lib.parseUint10] at h
    split at h
    · split at h
      · cases h
      · split at h
        · cases h
        · have := parse_ge h; omega
    · cases h
theorem parse_refN {m : Nat} (hm : m ≤ 65535) : ∀ {l : By} {n : Nat}, l.all isDig = true → n ≤ m →
    (∃ v, refN 10 m n l = some v ∧ Lib.parseUint10 n l = .ok v) ∨ (refN 10 m n l = none ∧ (Lib.parseUint10 n l = .range ∨ ∃ u, Lib.parseUint10 n l = .ok u ∧ m < u))
  | [], n, _, _ => .inl ⟨n, rfl, rfl⟩
  | c :: l, n, h, hn => by
    simp only [List.all_cons, Bool.and_eq_true] at h
    obtain ⟨h1, h2, h3⟩ := dv_dig h.1
    unfold refN Lib.parseUint10
    rw [if_neg (show ¬ 10 ≤ dv c by omega), if_pos (show 48 ≤ c.toNat ∧ c.toNat ≤ 57 from ⟨h2, h3⟩), h1]
    by_cases hq : m < n * 10 + (c.toNat - 48)
    · right
      rw [if_pos hq]
      refine ⟨rfl, ?_⟩
      split
      · exact .inl rfl
      · split
        · exact .inl rfl
        · cases hp : Lib.parseUint10 (n * 10 + (c.toNat - 48)) l with
          | ok u => have := parse_ge hp; exact .inr ⟨u, rfl, by omega⟩
          | range => exact .inl rfl
          | «syntax» =>
            exfalso
            have : ∀ {l : By} {a : Nat}, l.all isDig = true → Lib.parseUint10 a l ≠ .«syntax» := by
              intro l
              induction l with
              | nil => intro a _ e; cases e
              | cons d r ih =>
                intro a hd
                simp only [List.all_cons, Bool.and_eq_true] at hd
                obtain ⟨_, g2, g3⟩ := dv_dig hd.1
                unfold Lib.parseUint10
                rw [if_pos ⟨g2, g3⟩]
                split
                · intro e; cases e
                · split
                  · intro e; cases e
                  · exact ih hd.2
            exact this h.2 hp
    · rw [if_neg hq, if_neg (by omega), if_neg (by omega)]
      exact parse_refN hm h.2 (by omega)
theorem addr_dec {s : By} (hs : s.length ≤ 1048576) {m : Nat} (hm2 : m ≤ 65535) : Tells (addr_decimal s (m : Int)) (decM m s) := by
  unfold addr_decimal
  rw [dec_loop (m : Int) s.length 0 (by omega), List.drop_zero]
  cases ha : s.all isDig with
  | false =>
    have hd : decM m s = none := by
      unfold decM
      split
      · rfl
      · refine refN_bad 0 ?_
        have := List.all_eq_false.1 ha
        obtain ⟨c, hc, hn⟩ := this
        exact ⟨c, hc, dv_not (by simpa using hn)⟩
    rw [hd]
    exact ⟨0, rfl, fun n h => by cases h⟩
  | true =>
    simp only [if_true, Option.bind_some, Sum.elim_inl]
    unfold strconv_Atoi
    rw [decide_eq_true (by omega)]
    simp only [cond_true, Option.bind_some]
    cases s with
    | nil => exact ⟨0, rfl, fun n h => by simp [decM] at h⟩
    | cons c l =>
      have hc := ha
      simp only [List.all_cons, Bool.and_eq_true] at hc
      obtain ⟨_, g2, g3⟩ := dv_dig hc.1
      have hmag : Lib.parseMag (c :: l) = Lib.parseUint10 0 (c :: l) := by unfold Lib.parseMag; rw [if_neg (by simp)]
      have hall : Lib.atoiAll (c :: l) = match Lib.parseUint10 0 (c :: l) with
          | .«syntax» => .«syntax»
          | .range => .range
          | .ok u => if 9223372036854775808 ≤ u then .range else .ok (u : Int) := by
        unfold Lib.atoiAll
        simp only [show ¬ c.toNat = 43 by omega, or_self, if_false, hmag, show ¬ c.toNat = 45 by omega, not_false_eq_true, true_and, false_and]
        try rfl
      have hfin : ∀ (x : Int), (atoiV (c :: l)).2 = false → decM m (c :: l) = none →
          Tells (bif (atoiV (c :: l)).2 then (bif (decide ((atoiV (c :: l)).1 ≤ (m : Int))) then (bif ((c :: l) == ([48] : List UInt8)) then (some ((atoiV (c :: l)).1, true)) else (bif (decide (0 < ((c :: l).length : Int))) then (some ((atoiV (c :: l)).1, ((bL (c :: l) 0) != 48))) else none)) else (some ((atoiV (c :: l)).1, false))) else (some ((atoiV (c :: l)).1, false))) (decM m (c :: l)) := fun x h1 h2 => by
        rw [h1, h2]
        exact ⟨_, rfl, fun n h => by cases h⟩
      have hle : refN 10 m 0 (c :: l) = none → decM m (c :: l) = none := fun h => by
        unfold decM
        split
        · rfl
        · exact h
      rcases parse_refN hm2 ha (Nat.zero_le m) with ⟨v, h1, h2⟩ | ⟨h1, h2 | ⟨u, h2, h3⟩⟩
      · have hv := refN_le (Nat.zero_le m) h1
        have hA : atoiV (c :: l) = ((v : Int), true) := by
          unfold atoiV
          rw [hall, h2]
          simp only [show ¬ 9223372036854775808 ≤ v by omega, if_false]
        rw [hA]
        simp only [cond_true]
        rw [bif_dec (by omega)]
        by_cases h48 : (c :: l) = [48]
        · rw [show ((c :: l) == ([48] : By)) = true by rw [h48]; rfl, cond_true]
          have hd : decM m (c :: l) = some v := by
            unfold decM
            rw [if_neg (by rw [h48]; simp)]
            exact h1
          rw [hd]
          exact ⟨_, rfl, fun n h => by cases h; rfl⟩
        · rw [show ((c :: l) == ([48] : By)) = false by simpa using h48, cond_false, bif_dec (by simp)]
          have hb : bL (c :: l) 0 = ((c.toNat : Nat) : Int) := bL_at (s := c :: l) (i := 0) (by simp)
          rw [hb]
          by_cases hc0 : c = 48
          · have hd : decM m (c :: l) = none := by
              unfold decM
              rw [if_pos]
              right
              refine ⟨?_, by simp [hc0]⟩
              cases l with
              | nil => exact absurd (by rw [hc0]) h48
              | cons d r => simp
            rw [hd, hc0]
            exact ⟨_, rfl, fun n h => by cases h⟩
          · have hd : decM m (c :: l) = some v := by
              unfold decM
              rw [if_neg (by simp; exact fun _ => hc0)]
              exact h1
            have e : (((c.toNat : Nat) : Int) != 48) = true := by
              rw [bne_iff_ne]
              intro e
              exact hc0 (UInt8.toNat_inj.1 (show c.toNat = 48 by omega))
            rw [hd, e]
            exact ⟨_, rfl, fun n h => by cases h; rfl⟩
      · refine hfin 0 ?_ (hle h1)
        unfold atoiV
        rw [hall, h2]
      · by_cases hu : 9223372036854775808 ≤ u
        · refine hfin 0 ?_ (hle h1)
          unfold atoiV
          rw [hall, h2]
          simp only [hu, if_true]
        · have hA : atoiV (c :: l) = ((u : Int), true) := by
            unfold atoiV
            rw [hall, h2]
            simp only [hu, if_false]
          rw [hA, hle h1]
          simp only [cond_true]
          rw [bif_ndec (by omega)]
          exact ⟨_, rfl, fun n h => by cases h⟩
theorem fnum_loop {s : By} (m : Int) : ∀ k i, i + k = s.length → ftp_number_p21 (s, m, s, i) = some (if (s.drop i).all isDig then .inl (s, m) else .inr (0, false)) := by
  intro k
  induction k with
  | zero =>
    intro i h1
    unfold ftp_number_p21
    refine iter_end ?_
    unfold ftp_number_p21b
    rw [bif_ndec (by simp only; omega), List.drop_eq_nil_of_le (by omega)]
    rfl
  | succ k ih =>
    intro i h1
    have hi : i < s.length := by omega
    rw [List.drop_eq_getElem_cons hi, List.all_cons]
    unfold ftp_number_p21
    by_cases hd : isDig s[i] = true
    · have hd' := hd
      simp only [isDig, Bool.and_eq_true, decide_eq_true_eq] at hd'
      rw [hd, Bool.true_and]
      refine Eq.trans (iter_go ?_) (ih (i + 1) (by omega))
      unfold ftp_number_p21b
      simp only
      rw [bif_dec (by omega), decode_low hi (by omega)]
      simp only
      rw [bif_ndec (by omega), bif_ndec (by omega)]
    · have hd2 : isDig s[i] = false := by simpa using hd
      rw [hd2, Bool.false_and]
      refine iter_end ?_
      unfold ftp_number_p21b
      simp only
      rw [bif_dec (by omega)]
      have hr : ((Utf8.decode ⟨⟨s⟩⟩ i).1 : Int) < 48 ∨ ((Utf8.decode ⟨⟨s⟩⟩ i).1 : Int) > 57 := by
        by_cases h128 : s[i].toNat < 128
        · rw [decode_low hi h128]
          simp only [isDig, Bool.and_eq_false_iff, decide_eq_false_iff_not] at hd2
          simp only
          omega
        · have := decode_high hi h128
          omega
      by_cases h48 : ((Utf8.decode ⟨⟨s⟩⟩ i).1 : Int) < 48
      · rw [bif_dec h48]; rfl
      · rw [bif_ndec h48, bif_dec (by omega)]; rfl
theorem ftp_num {s : By} (hs : s.length ≤ 1048576) {m : Nat} (hm2 : m ≤ 65535) : Tells (ftp_number s (m : Int)) (decM m s) := by
  unfold ftp_number
  rw [fnum_loop (m : Int) s.length 0 (by omega), List.drop_zero]
  cases ha : s.all isDig with
  | false =>
    have hd : decM m s = none := by
      unfold decM
      split
      · rfl
      · refine refN_bad 0 ?_
        have := List.all_eq_false.1 ha
        obtain ⟨c, hc, hn⟩ := this
        exact ⟨c, hc, dv_not (by simpa using hn)⟩
    rw [hd]
    exact ⟨0, rfl, fun n h => by cases h⟩
  | true =>
    simp only [if_true, Option.bind_some, Sum.elim_inl]
    unfold strconv_Atoi
    rw [decide_eq_true (by omega)]
    simp only [cond_true, Option.bind_some]
    cases s with
    | nil => exact ⟨0, rfl, fun n h => by simp [decM] at h⟩
    | cons c l =>
      have hc := ha
      simp only [List.all_cons, Bool.and_eq_true] at hc
      obtain ⟨_, g2, g3⟩ := dv_dig hc.1
      have hmag : Lib.parseMag (c :: l) = Lib.parseUint10 0 (c :: l) := by unfold Lib.parseMag; rw [if_neg (by simp)]
      have hall : Lib.atoiAll (c :: l) = match Lib.parseUint10 0 (c :: l) with
          | .«syntax» => .«syntax»
          | .range => .range
          | .ok u => if 9223372036854775808 ≤ u then .range else .ok (u : Int) := by
        unfold Lib.atoiAll
        simp only [show ¬ c.toNat = 43 by omega, or_self, if_false, hmag, show ¬ c.toNat = 45 by omega, not_false_eq_true, true_and, false_and]
        try rfl
      have hfin : ∀ (x : Int), (atoiV (c :: l)).2 = false → decM m (c :: l) = none →
          Tells (bif (atoiV (c :: l)).2 then (bif (decide ((atoiV (c :: l)).1 ≤ (m : Int))) then (bif ((c :: l) == ([48] : List UInt8)) then (some ((atoiV (c :: l)).1, true)) else (bif (decide (0 < ((c :: l).length : Int))) then (some ((atoiV (c :: l)).1, ((bL (c :: l) 0) != 48))) else none)) else (some ((atoiV (c :: l)).1, false))) else (some ((atoiV (c :: l)).1, false))) (decM m (c :: l)) := fun x h1 h2 => by
        rw [h1, h2]
        exact ⟨_, rfl, fun n h => by cases h⟩
      have hle : refN 10 m 0 (c :: l) = none → decM m (c :: l) = none := fun h => by
        unfold decM
        split
        · rfl
        · exact h
      rcases parse_refN hm2 ha (Nat.zero_le m) with ⟨v, h1, h2⟩ | ⟨h1, h2 | ⟨u, h2, h3⟩⟩
      · have hv := refN_le (Nat.zero_le m) h1
        have hA : atoiV (c :: l) = ((v : Int), true) := by
          unfold atoiV
          rw [hall, h2]
          simp only [show ¬ 9223372036854775808 ≤ v by omega, if_false]
        rw [hA]
        simp only [cond_true]
        rw [bif_dec (by omega)]
        by_cases h48 : (c :: l) = [48]
        · rw [show ((c :: l) == ([48] : By)) = true by rw [h48]; rfl, cond_true]
          have hd : decM m (c :: l) = some v := by
            unfold decM
            rw [if_neg (by rw [h48]; simp)]
            exact h1
          rw [hd]
          exact ⟨_, rfl, fun n h => by cases h; rfl⟩
        · rw [show ((c :: l) == ([48] : By)) = false by simpa using h48, cond_false, bif_dec (by simp)]
          have hb : bL (c :: l) 0 = ((c.toNat : Nat) : Int) := bL_at (s := c :: l) (i := 0) (by simp)
          rw [hb]
          by_cases hc0 : c = 48
          · have hd : decM m (c :: l) = none := by
              unfold decM
              rw [if_pos]
              right
              refine ⟨?_, by simp [hc0]⟩
              cases l with
              | nil => exact absurd (by rw [hc0]) h48
              | cons d r => simp
            rw [hd, hc0]
            exact ⟨_, rfl, fun n h => by cases h⟩
          · have hd : decM m (c :: l) = some v := by
              unfold decM
              rw [if_neg (by simp; exact fun _ => hc0)]
              exact h1
            have e : (((c.toNat : Nat) : Int) != 48) = true := by
              rw [bne_iff_ne]
              intro e
              exact hc0 (UInt8.toNat_inj.1 (show c.toNat = 48 by omega))
            rw [hd, e]
            exact ⟨_, rfl, fun n h => by cases h; rfl⟩
      · refine hfin 0 ?_ (hle h1)
        unfold atoiV
        rw [hall, h2]
      · by_cases hu : 9223372036854775808 ≤ u
        · refine hfin 0 ?_ (hle h1)
          unfold atoiV
          rw [hall, h2]
          simp only [hu, if_true]
        · have hA : atoiV (c :: l) = ((u : Int), true) := by
            unfold atoiV
            rw [hall, h2]
            simp only [hu, if_false]
          rw [hA, hle h1]
          simp only [cond_true]
          rw [bif_ndec (by omega)]
          exact ⟨_, rfl, fun n h => by cases h⟩
end Go.Proofs.YtpkhlncohbakkaaDoor.Jv
