/- Numbers out of texts, by both; conditions: none. -/
import Derived.Test.YtfaofikhabccoaaGreatDoorParts20
namespace Go.Proofs.YtfaofikhabccoaaGreatDoor.Jv.A
open Go
set_option linter.unusedSectionVars false
set_option linter.unusedVariables false
set_option linter.unusedSimpArgs false
/-- What a sign is worth. -/
def dv (c : UInt8) : Nat := if 48 ≤ c.toNat ∧ c.toNat ≤ 57 then c.toNat - 48 else if 97 ≤ c.toNat ∧ c.toNat ≤ 102 then c.toNat - 87 else if 65 ≤ c.toNat ∧ c.toNat ≤ 70 then c.toNat - 55 else 99
/-- A number in a base, if it is at most m. -/
def refN (b m : Nat) : Nat → By → Option Nat
  | n, [] => some n
  | n, c :: l => if b ≤ dv c then none else if m < n * b + dv c then none else refN b m (n * b + dv c) l
theorem refN_le {b m : Nat} : ∀ {l : By} {n v : Nat}, n ≤ m → refN b m n l = some v → v ≤ m
  | [], n, v, hn, h => by cases h; exact hn
  | c :: l, n, v, hn, h => by
    unfold refN at h
    split at h
    · cases h
    · split at h
      · cases h
      · exact refN_le (by omega) h
theorem refN_bad {b m : Nat} : ∀ {l : By} (n : Nat), (∃ c ∈ l, b ≤ dv c) → refN b m n l = none
  | [], n, h => by obtain ⟨c, hc, _⟩ := h; cases hc
  | c :: l, n, ⟨x, hx, hb⟩ => by
    unfold refN
    split
    · rfl
    · split
      · rfl
      · rcases List.mem_cons.1 hx with e | e
        · subst e; contradiction
        · exact refN_bad _ ⟨x, e, hb⟩
/-! ### The document's Number -/
theorem sign_eq (s : By) (b m n i : Int) (c : UInt8) : ref02_Number_p11415 (s, b, m, n, i, (c.toNat : Int), 99) = some (s, b, m, n, i, ((dv c : Nat) : Int)) := by
  have hc : c.toNat < 256 := c.toNat_lt
  have w1 : ∀ k : Int, 0 ≤ (c.toNat : Int) - k → (c.toNat : Int) - k < 256 → IntKind.i64.wrap (IntKind.u8.wrap ((c.toNat : Int) - k)) = (c.toNat : Int) - k := fun k h1 h2 => by
    rw [wrap_u8 h1 h2, wrap_i64 (by omega) (by omega)]
  unfold ref02_Number_p11415 dv
  simp only
  by_cases a1 : 48 ≤ c.toNat
  · rw [bif_dec (show (c.toNat : Int) ≥ 48 by omega)]
    by_cases a2 : c.toNat ≤ 57
    · rw [bif_dec (show (c.toNat : Int) ≤ 57 by omega), if_pos ⟨a1, a2⟩, w1 48 (by omega) (by omega), show ((c.toNat - 48 : Nat) : Int) = (c.toNat : Int) - 48 by omega]
    · rw [bif_ndec (show ¬ (c.toNat : Int) ≤ 57 by omega), if_neg (by omega)]
      by_cases a3 : 97 ≤ c.toNat
      · rw [bif_dec (show (c.toNat : Int) ≥ 97 by omega)]
        by_cases a4 : c.toNat ≤ 102
        · rw [bif_dec (show (c.toNat : Int) ≤ 102 by omega), if_pos ⟨a3, a4⟩, w1 97 (by omega) (by omega), wrap_i64 (by omega) (by omega), show ((c.toNat - 87 : Nat) : Int) = (c.toNat : Int) - 97 + 10 by omega]
        · rw [bif_ndec (show ¬ (c.toNat : Int) ≤ 102 by omega), if_neg (by omega), bif_dec (show (c.toNat : Int) ≥ 65 by omega), bif_ndec (show ¬ (c.toNat : Int) ≤ 70 by omega), if_neg (by omega)]
          rfl
      · rw [bif_ndec (show ¬ (c.toNat : Int) ≥ 97 by omega), if_neg (by omega)]
        by_cases a5 : 65 ≤ c.toNat
        · rw [bif_dec (show (c.toNat : Int) ≥ 65 by omega)]
          by_cases a6 : c.toNat ≤ 70
          · rw [bif_dec (show (c.toNat : Int) ≤ 70 by omega), if_pos ⟨a5, a6⟩, w1 65 (by omega) (by omega), wrap_i64 (by omega) (by omega), show ((c.toNat - 55 : Nat) : Int) = (c.toNat : Int) - 65 + 10 by omega]
          · rw [bif_ndec (show ¬ (c.toNat : Int) ≤ 70 by omega), if_neg (by omega)]
            rfl
        · rw [bif_ndec (show ¬ (c.toNat : Int) ≥ 65 by omega), if_neg (by omega)]
          rfl
  · rw [bif_ndec (show ¬ (c.toNat : Int) ≥ 48 by omega), bif_ndec (show ¬ (c.toNat : Int) ≥ 97 by omega), bif_ndec (show ¬ (c.toNat : Int) ≥ 65 by omega), if_neg (by omega), if_neg (by omega), if_neg (by omega)]
    rfl
theorem num_loop {s : By} (hs : s.length ≤ 4194304) {b m : Nat} (hb : 10 ≤ b) (hb2 : b ≤ 16) (hm : 100 ≤ m) (hm2 : m ≤ 65535) : ∀ k i n, i + k = s.length → n ≤ m →
    ref02_Number_p87 (s, (b : Int), (m : Int), (n : Int), (i : Int)) = some (match refN b m n (s.drop i) with | some v => .inl ((m : Int), (v : Int)) | none => .inr (0, false)) := by
  intro k
  induction k with
  | zero =>
    intro i n h1 h2
    unfold ref02_Number_p87
    refine iter_end ?_
    unfold ref02_Number_p87b
    rw [bif_ndec (by simp only; omega), List.drop_eq_nil_of_le (by omega)]
    rfl
  | succ k ih =>
    intro i n h1 h2
    have hi : i < s.length := by omega
    have e1 : IntKind.i64.wrap ((i : Int) + 1) = ((i + 1 : Nat) : Int) := by rw [wrap_i64 (by omega) (by omega)]; omega
    have step : ref02_Number_p87b (s, (b : Int), (m : Int), (n : Int), (i : Int)) = if b ≤ dv s[i] then some (.inr (.inr (0, false))) else if m < n * b + dv s[i] then some (.inr (.inr (0, false))) else some (.inl (s, (b : Int), (m : Int), ((n * b + dv s[i] : Nat) : Int), ((i + 1 : Nat) : Int))) := by
      unfold ref02_Number_p87b
      simp only
      rw [bif_dec (by omega), bif_dec (by omega), bif_dec (by omega), bL_at hi, sign_eq]
      simp only [Option.bind_some]
      by_cases hd : b ≤ dv s[i]
      · rw [bif_dec (by omega), if_pos hd]
      · rw [bif_ndec (by omega), if_neg hd]
        have e2 : ((b : Int) != 0) = true := by rw [bne_iff_ne]; omega
        have e3 : IntKind.i64.wrap ((m : Int) - ((dv s[i] : Nat) : Int)) = ((m - dv s[i] : Nat) : Int) := by rw [wrap_i64 (by omega) (by omega)]; omega
        have hq : (m - dv s[i]) / b ≤ m - dv s[i] := Nat.div_le_self _ _
        have e4 : IntKind.i64.wrap (Int.tdiv ((m - dv s[i] : Nat) : Int) (b : Int)) = (((m - dv s[i]) / b : Nat) : Int) := by
          rw [← Int.ofNat_tdiv]
          generalize (m - dv s[i]) / b = Q at hq ⊢
          exact wrap_i64 (by omega) (by omega)
        have hnb : n * b ≤ m * 16 := Nat.mul_le_mul h2 hb2
        have hmul : (n : Int) * (b : Int) = ((n * b : Nat) : Int) := by push_cast; rfl
        have e5 : IntKind.i64.wrap (IntKind.i64.wrap ((n : Int) * (b : Int)) + ((dv s[i] : Nat) : Int)) = ((n * b + dv s[i] : Nat) : Int) := by
          rw [hmul, wrap_i64 (x := ((n * b : Nat) : Int)) (by omega) (by omega), wrap_i64 (by omega) (by omega)]
          omega
        have hdiv : (m - dv s[i]) / b < n ↔ m < n * b + dv s[i] := by
          rw [Nat.div_lt_iff_lt_mul (by omega)]
          omega
        rw [e2, cond_true, e3, e4, e5, e1]
        by_cases hq2 : m < n * b + dv s[i]
        · rw [bif_dec (by have := hdiv.2 hq2; omega), if_pos hq2]
        · rw [bif_ndec (by
            intro e
            exact hq2 (hdiv.1 (by omega))), if_neg hq2]
    rw [List.drop_eq_getElem_cons hi, refN]
    unfold ref02_Number_p87
    by_cases hd : b ≤ dv s[i]
    · rw [if_pos hd] at step ⊢
      rw [iter_end step]
    · rw [if_neg hd] at step ⊢
      by_cases hq : m < n * b + dv s[i]
      · rw [if_pos hq] at step ⊢
        rw [iter_end step]
      · rw [if_neg hq] at step ⊢
        rw [iter_go step]
        exact ih (i + 1) _ (by omega) (by omega)
/-- A number in base 10 without a needless 0 ahead. -/
def decM (m : Nat) (s : By) : Option Nat := if s = [] ∨ (1 < s.length ∧ s[0]? = some 48) then none else refN 10 m 0 s
/-- A group: up to four signs of base 16. -/
def hexM (s : By) : Option Nat := if s = [] ∨ 4 < s.length then none else refN 16 65535 0 s
/-- What a function tells that gives a number or none. -/
def Tells (r : Option (Int × Bool)) (o : Option Nat) : Prop := ∃ x : Int, r = some (x, o.isSome) ∧ ∀ n, o = some n → x = (n : Int)
theorem ref_dec {s : By} (hs : s.length ≤ 4194304) {m : Nat} (hm : 100 ≤ m) (hm2 : m ≤ 65535) : Tells (ref02_Number s 10 (m : Int)) (decM m s) := by
  unfold ref02_Number ref02_Number_p5 decM
  cases s with
  | nil => exact ⟨0, rfl, fun n h => by simp at h⟩
  | cons c l =>
    have e0 : ((c :: l) == ([] : By)) = false := rfl
    simp only [e0, cond_false, beq_self_eq_true, cond_true]
    have hloop := num_loop hs (b := 10) (m := m) (by omega) (by omega) hm hm2 (c :: l).length 0 0 (by omega) (by omega)
    rw [List.drop_zero] at hloop
    have hl' : ref02_Number_p87 (c :: l, 10, (m : Int), 0, 0) = _ := hloop
    have hgo : Tells ((ref02_Number_p87 (c :: l, 10, (m : Int), 0, 0)).bind fun (o3 : (Int × Int) ⊕ (Int × Bool)) => Sum.elim (fun (y4 : Int × Int) => some (y4.2, (decide (y4.2 ≤ y4.1)))) (fun o5 => some (o5.1, o5.2)) o3) (refN 10 m 0 (c :: l)) := by
      rw [hl']
      cases hr : refN 10 m 0 (c :: l) with
      | none => exact ⟨0, rfl, fun n h => by cases h⟩
      | some v =>
        have := refN_le (by omega) hr
        refine ⟨(v : Int), ?_, fun n h => by cases h; rfl⟩
        simp only [Option.bind_some, Sum.elim_inl]
        rw [decide_eq_true (by omega)]
        rfl
    by_cases h1 : 1 < (c :: l).length
    · rw [bif_dec (by omega), bif_dec (by omega)]
      have hb : bL (c :: l) 0 = ((c.toNat : Nat) : Int) := bL_at (s := c :: l) (i := 0) (by simp)
      rw [hb]
      by_cases h48 : c = 48
      · subst h48
        rw [if_pos (.inr ⟨h1, by simp⟩)]
        exact ⟨0, rfl, fun n h => by cases h⟩
      · have e : (((c.toNat : Nat) : Int) == 48) = false := by
          rw [beq_eq_false_iff_ne]
          intro e
          exact h48 (UInt8.toNat_inj.1 (show c.toNat = 48 by omega))
        rw [e, if_neg (by simp; exact fun _ => h48)]
        exact hgo
    · rw [bif_ndec (by omega), if_neg (show ¬ (c :: l = [] ∨ (1 < (c :: l).length ∧ (c :: l)[0]? = some 48)) from fun e => e.elim (fun e => by cases e) (fun e => h1 e.1))]
      exact hgo
theorem ref_hex {s : By} (hs : s.length ≤ 4194304) : Tells (ref02_Number s 16 65535) (if s = [] then none else refN 16 65535 0 s) := by
  unfold ref02_Number ref02_Number_p5
  cases s with
  | nil => exact ⟨0, rfl, fun n h => by simp at h⟩
  | cons c l =>
    have e0 : ((c :: l) == ([] : By)) = false := rfl
    simp only [e0, cond_false, show ((16 : Int) == 10) = false from rfl, if_neg (show ¬ c :: l = [] by simp)]
    have hloop := num_loop hs (b := 16) (m := 65535) (by omega) (by omega) (by omega) (by omega) (c :: l).length 0 0 (by omega) (by omega)
    rw [List.drop_zero] at hloop
    have hl' : ref02_Number_p87 (c :: l, 16, 65535, 0, 0) = _ := hloop
    simp only [Option.bind_some, Sum.elim_inl]
    rw [hl']
    cases hr : refN 16 65535 0 (c :: l) with
    | none => exact ⟨0, rfl, fun n h => by cases h⟩
    | some v =>
      have := refN_le (by omega) hr
      refine ⟨(v : Int), ?_, fun n h => by cases h; rfl⟩
      simp only [Option.bind_some, Sum.elim_inl]
      rw [decide_eq_true (by omega)]
      rfl
/-! ### The program's decimal -/
def isDig (c : UInt8) : Bool := decide (48 ≤ c.toNat) && decide (c.toNat ≤ 57)
theorem dec_loop {s : By} (m : Int) : ∀ k i, i + k = s.length → addr_decimal_p21 (s, m, s, i) = some (if (s.drop i).all isDig then .inl (s, m) else .inr (0, false)) := by
  intro k
  induction k with
  | zero =>
    intro i h1
    unfold addr_decimal_p21
    refine iter_end ?_
    unfold addr_decimal_p21b
    rw [bif_ndec (by simp only; omega), List.drop_eq_nil_of_le (by omega)]
    rfl
  | succ k ih =>
    intro i h1
    have hi : i < s.length := by omega
    rw [List.drop_eq_getElem_cons hi, List.all_cons]
    unfold addr_decimal_p21
    by_cases hd : isDig s[i] = true
    · have hd' := hd
      simp only [isDig, Bool.and_eq_true, decide_eq_true_eq] at hd'
      rw [hd, Bool.true_and]
      refine Eq.trans (iter_go ?_) (ih (i + 1) (by omega))
      unfold addr_decimal_p21b
      simp only
      rw [bif_dec (by omega), decode_low hi (by omega)]
      simp only
      rw [bif_ndec (by omega), bif_ndec (by omega)]
    · have hd2 : isDig s[i] = false := by simpa using hd
      rw [hd2, Bool.false_and]
      refine iter_end ?_
      unfold addr_decimal_p21b
      simp only
      rw [bif_dec (by omega)]
      have hr : ((Utf8.decode ⟨⟨s⟩⟩ i).1 : Int) < 48 ∨ ((Utf8.decode ⟨⟨s⟩⟩ i).1 : Int) > 57 := by
        by_cases h128 : s[i].toNat < 128
        · rw [decode_low hi h128]
          simp only [isDig, Bool.and_eq_false_iff, decide_eq_false_iff_not] at hd2
          simp only
          omega
        · have := decode_high hi h128
          omega
      by_cases h48 : ((Utf8.decode ⟨⟨s⟩⟩ i).1 : Int) < 48
      · rw [bif_dec h48]; rfl
      · rw [bif_ndec h48, bif_dec (by omega)]; rfl
theorem dv_dig {c : UInt8} (h : isDig c = true) : dv c = c.toNat - 48 ∧ 48 ≤ c.toNat ∧ c.toNat ≤ 57 := by
  simp only [isDig, Bool.and_eq_true, decide_eq_true_eq] at h
  unfold dv
  rw [if_pos h]
  exact ⟨rfl, h⟩
theorem dv_not {c : UInt8} (h : isDig c = false) : 10 ≤ dv c := by
  simp only [isDig, Bool.and_eq_false_iff, decide_eq_false_iff_not] at h
  unfold dv
  split
  · omega
  · split
    · omega
    · split <;> omega
theorem parse_ge : ∀ {l : By} {a u : Nat}, Lib.parseUint10 a l = .ok u → a ≤ u
  | [], a, u, h => by simp only [Lib.parseUint10] at h; injection h with h; omega
  | c :: l, a, u, h => by
    simp only [Lib.parseUint10] at h
    split at h
    · split at h
      · cases h
      · split at h
        · cases h
        · have := parse_ge h; omega
    · cases h
theorem parse_refN {m : Nat} (hm : m ≤ 65535) : ∀ {l : By} {n : Nat}, l.all isDig = true → n ≤ m →
    (∃ v, refN 10 m n l = some v ∧ Lib.parseUint10 n l = .ok v) ∨ (refN 10 m n l = none ∧ (Lib.parseUint10 n l = .range ∨ ∃ u, Lib.parseUint10 n l = .ok u ∧ m < u))
  | [], n, _, _ => .inl ⟨n, rfl, rfl⟩
  | c :: l, n, h, hn => by
    simp only [List.all_cons, Bool.and_eq_true] at h
    obtain ⟨h1, h2, h3⟩ := dv_dig h.1
    unfold refN Lib.parseUint10
    rw [if_neg (show ¬ 10 ≤ dv c by omega), if_pos (show 48 ≤ c.toNat ∧ c.toNat ≤ 57 from ⟨h2, h3⟩), h1]
    by_cases hq : m < n * 10 + (c.toNat - 48)
    · right
      rw [if_pos hq]
      refine ⟨rfl, ?_⟩
      split
      · exact .inl rfl
      · split
        · exact .inl rfl
        · cases hp : Lib.parseUint10 (n * 10 + (c.toNat - 48)) l with
          | ok u => have := parse_ge hp; exact .inr ⟨u, rfl, by omega⟩
          | range => exact .inl rfl
          | «syntax» =>
            exfalso
            have : ∀ {l : By} {a : Nat}, l.all isDig = true → Lib.parseUint10 a l ≠ .«syntax» := by
              intro l
              induction l with
              | nil => intro a _ e; cases e
              | cons d r ih =>
                intro a hd
                simp only [List.all_cons, Bool.and_eq_true] at hd
                obtain ⟨_, g2, g3⟩ := dv_dig hd.1
                unfold Lib.parseUint10
                rw [if_pos ⟨g2, g3⟩]
                split
                · intro e; cases e
                · split
                  · intro e; cases e
                  · exact ih hd.2
            exact this h.2 hp
    · rw [if_neg hq, if_neg (by omega), if_neg (by omega)]
      exact parse_refN hm h.2 (by omega)
theorem addr_dec {s : By} (hs : s.length ≤ 4194304) {m : Nat} (hm2 : m ≤ 65535) : Tells (addr_decimal s (m : Int)) (decM m s) := by
  unfold addr_decimal
  rw [dec_loop (m : Int) s.length 0 (by omega), List.drop_zero]
  cases ha : s.all isDig with
  | false =>
    have hd : decM m s = none := by
      unfold decM
      split
      · rfl
      · refine refN_bad 0 ?_
        have := List.all_eq_false.1 ha
        obtain ⟨c, hc, hn⟩ := this
        exact ⟨c, hc, dv_not (by simpa using hn)⟩
    rw [hd]
    exact ⟨0, rfl, fun n h => by cases h⟩
  | true =>
    simp only [if_true, Option.bind_some, Sum.elim_inl]
    unfold strconv_Atoi
    rw [decide_eq_true (by omega)]
    simp only [cond_true, Option.bind_some]
    cases s with
    | nil => exact ⟨0, rfl, fun n h => by simp [decM] at h⟩
    | cons c l =>
      have hc := ha
      simp only [List.all_cons, Bool.and_eq_true] at hc
      obtain ⟨_, g2, g3⟩ := dv_dig hc.1
      have hmag : Lib.parseMag (c :: l) = Lib.parseUint10 0 (c :: l) := by unfold Lib.parseMag; rw [if_neg (by simp)]
      have hall : Lib.atoiAll (c :: l) = match Lib.parseUint10 0 (c :: l) with
          | .«syntax» => .«syntax»
          | .range => .range
          | .ok u => if 9223372036854775808 ≤ u then .range else .ok (u : Int) := by
        unfold Lib.atoiAll
        simp only [show ¬ c.toNat = 43 by omega, or_self, if_false, hmag, show ¬ c.toNat = 45 by omega, not_false_eq_true, true_and, false_and]
        try rfl
      have hfin : ∀ (x : Int), (atoiV (c :: l)).2 = false → decM m (c :: l) = none →
          Tells (bif (atoiV (c :: l)).2 then (bif (decide ((atoiV (c :: l)).1 ≤ (m : Int))) then (bif ((c :: l) == ([48] : List UInt8)) then (some ((atoiV (c :: l)).1, true)) else (bif (decide (0 < ((c :: l).length : Int))) then (some ((atoiV (c :: l)).1, ((bL (c :: l) 0) != 48))) else none)) else (some ((atoiV (c :: l)).1, false))) else (some ((atoiV (c :: l)).1, false))) (decM m (c :: l)) := fun x h1 h2 => by
        rw [h1, h2]
        exact ⟨_, rfl, fun n h => by cases h⟩
      have hle : refN 10 m 0 (c :: l) = none → decM m (c :: l) = none := fun h => by
        unfold decM
        split
        · rfl
        · exact h
      rcases parse_refN hm2 ha (Nat.zero_le m) with ⟨v, h1, h2⟩ | ⟨h1, h2 | ⟨u, h2, h3⟩⟩
      · have hv := refN_le (Nat.zero_le m) h1
        have hA : atoiV (c :: l) = ((v : Int), true) := by
          unfold atoiV
          rw [hall, h2]
          simp only [show ¬ 9223372036854775808 ≤ v by omega, if_false]
        rw [hA]
        simp only [cond_true]
        rw [bif_dec (by omega)]
        by_cases h48 : (c :: l) = [48]
        · rw [show ((c :: l) == ([48] : By)) = true by rw [h48]; rfl, cond_true]
          have hd : decM m (c :: l) = some v := by
            unfold decM
            rw [if_neg (by rw [h48]; simp)]
            exact h1
          rw [hd]
          exact ⟨_, rfl, fun n h => by cases h; rfl⟩
        · rw [show ((c :: l) == ([48] : By)) = false by simpa using h48, cond_false, bif_dec (by simp)]
          have hb : bL (c :: l) 0 = ((c.toNat : Nat) : Int) := bL_at (s := c :: l) (i := 0) (by simp)
          rw [hb]
          by_cases hc0 : c = 48
          · have hd : decM m (c :: l) = none := by
              unfold decM
              rw [if_pos]
              right
              refine ⟨?_, by simp [hc0]⟩
              cases l with
              | nil => exact absurd (by rw [hc0]) h48
              | cons d r => simp
            rw [hd, hc0]
            exact ⟨_, rfl, fun n h => by cases h⟩
          · have hd : decM m (c :: l) = some v := by
              unfold decM
              rw [if_neg (by simp; exact fun _ => hc0)]
              exact h1
            have e : (((c.toNat : Nat) : Int) != 48) = true := by
              rw [bne_iff_ne]
              intro e
              exact hc0 (UInt8.toNat_inj.1 (show c.toNat = 48 by omega))
            rw [hd, e]
            exact ⟨_, rfl, fun n h => by cases h; rfl⟩
      · refine hfin 0 ?_ (hle h1)
        unfold atoiV
        rw [hall, h2]
      · by_cases hu : 9223372036854775808 ≤ u
        · refine hfin 0 ?_ (hle h1)
          unfold atoiV
          rw [hall, h2]
          simp only [hu, if_true]
        · have hA : atoiV (c :: l) = ((u : Int), true) := by
            unfold atoiV
            rw [hall, h2]
            simp only [hu, if_false]
          rw [hA, hle h1]
          simp only [cond_true]
          rw [bif_ndec (by omega)]
          exact ⟨_, rfl, fun n h => by cases h⟩
end Go.Proofs.YtfaofikhabccoaaGreatDoor.Jv.A
