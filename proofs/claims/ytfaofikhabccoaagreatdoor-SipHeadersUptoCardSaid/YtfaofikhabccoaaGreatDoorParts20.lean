/- Parts of a text, by both; conditions: none. -/
import Derived.Test.YtfaofikhabccoaaGreatDoorFrom20
namespace Go.Proofs.YtfaofikhabccoaaGreatDoor.Jv.A
open Go
set_option linter.unusedSectionVars false
set_option linter.unusedVariables false
set_option linter.unusedSimpArgs false
def spl (c : UInt8) : List UInt8 → List (List UInt8)
  | [] => [[]]
  | x :: s => if x = c then [] :: spl c s else match spl c s with
    | [] => [[x]]
    | y :: r => (x :: y) :: r
theorem spl_ne (c : UInt8) : ∀ s, spl c s ≠ []
  | [] => by simp [spl]
  | x :: s => by
    unfold spl
    split
    · simp
    · split <;> simp
theorem spl_app (c : UInt8) : ∀ s t, spl c (s ++ c :: t) = spl c s ++ spl c t
  | [], t => by simp [spl]
  | x :: s, t => by
    rw [List.cons_append, spl, spl_app c s t, spl]
    split
    · simp
    · cases h : spl c s with
      | nil => exact absurd h (spl_ne c s)
      | cons y r => simp
theorem spl_none {c : UInt8} : ∀ {s : List UInt8}, c ∉ s → spl c s = [s]
  | [], _ => rfl
  | x :: s, h => by
    have h1 : x ≠ c := fun e => h (by simp [e])
    have h2 : c ∉ s := fun e => h (by simp [e])
    rw [spl, if_neg h1, spl_none h2]
theorem get_bang {s : By} {i : Nat} (h : i < s.length) : ((⟨⟨s⟩⟩ : ByteArray).get! i) = s[i] := by
  show (⟨s⟩ : Array UInt8)[i]! = _
  simp [h]
theorem decode_low {s : By} {i : Nat} (h : i < s.length) (hb : s[i].toNat < 128) : Utf8.decode ⟨⟨s⟩⟩ i = (s[i].toNat, 1) := by
  unfold Utf8.decode
  simp only [Nat.add_zero, get_bang h]
  rw [if_pos hb]
theorem decode_high {s : By} {i : Nat} (h : i < s.length) (hb : ¬ s[i].toNat < 128) : 128 ≤ (Utf8.decode ⟨⟨s⟩⟩ i).1 := by
  unfold Utf8.decode
  simp only [Nat.add_zero, get_bang h]
  rw [if_neg (by exact hb)]
  have hr : Utf8.runeError = 65533 := rfl
  split
  · split
    · simp only; omega
    · simp only [hr]; decide
  · split
    · split
      · rename_i h1; simp only [Bool.and_eq_true, decide_eq_true_eq] at h1; simp only; omega
      · simp only [hr]; decide
    · split
      · split
        · rename_i h1; simp only [Bool.and_eq_true, decide_eq_true_eq] at h1; simp only; omega
        · simp only [hr]; decide
      · simp only [hr]; decide
/-! ### Where a sign stands -/
theorem ixb (s : By) (c : UInt8) : (Lib.indexByte s c = -1 ∧ c ∉ s) ∨ ∃ i : Nat, Lib.indexByte s c = i ∧ i < s.length ∧ s = s.take i ++ c :: s.drop (i + 1) ∧ c ∉ s.take i := by
  induction s with
  | nil => exact .inl ⟨rfl, by simp⟩
  | cons b l ih =>
    unfold Lib.indexByte
    by_cases hb : b = c
    · subst hb
      right
      refine ⟨0, by simp, by simp, by simp, by simp⟩
    · have e : (b == c) = false := by simpa using hb
      rw [e]
      rcases ih with ⟨h1, h2⟩ | ⟨i, h1, h2, h3, h4⟩
      · left
        rw [h1]
        exact ⟨by simp, fun h => by rcases List.mem_cons.1 h with h | h; exact hb h.symm; exact h2 h⟩
      · right
        rw [h1]
        have e2 : ((i : Int) == -1) = false := by rw [beq_eq_false_iff_ne]; omega
        refine ⟨i + 1, by rw [e2]; simp, by simp; omega, ?_, ?_⟩
        · simp only [List.take_succ_cons, List.drop_succ_cons, List.cons_append]
          rw [← h3]
        · simp only [List.take_succ_cons, List.mem_cons, not_or]
          exact ⟨fun h => hb h.symm, h4⟩
theorem contains_one (s : By) (c : UInt8) : Lib.contains s [c] = decide (c ∈ s) := by
  unfold Lib.contains
  rw [Lib.index_one]
  rcases ixb s c with ⟨h1, h2⟩ | ⟨i, h1, h2, h3, h4⟩
  · rw [h1, decide_eq_false h2]; rfl
  · have : c ∈ s := by rw [h3]; simp
    rw [h1, decide_eq_true this]
    exact decide_eq_true (by omega)
theorem split_one (c : UInt8) : ∀ (n : Nat) (s : By), s.length ≤ n → Lib.splitK [c] 0 (Lib.count s [c]) s = spl c s := by
  intro n
  induction n with
  | zero =>
    intro s hs
    have : s = [] := List.eq_nil_of_length_eq_zero (by omega)
    subst this
    rfl
  | succ n ih =>
    intro s hs
    rcases ixb s c with ⟨h1, h2⟩ | ⟨i, h1, h2, h3, h4⟩
    · have hi : Lib.index s [c] = -1 := by rw [Lib.index_one]; exact h1
      rw [Lib.count_miss hi, spl_none h2]
      rfl
    · have hi : Lib.index s [c] = i := by rw [Lib.index_one]; exact h1
      rw [Lib.count_hit (by simp) hi, Nat.add_comm 1, Lib.splitK, hi]
      have e2 : ((i : Int) == -1) = false := by rw [beq_eq_false_iff_ne]; omega
      rw [e2]
      conv => rhs; rw [h3, spl_app, spl_none h4]
      simp only [Int.toNat_natCast, Nat.add_zero, List.length_cons, List.length_nil, Nat.zero_add]
      rw [ih _ (by simp; omega)]
      rfl
theorem Split_eq {s : By} {c : UInt8} (hs : s.length ≤ 4194304) : strings_Split s [c] = some (spl c s) := by
  unfold strings_Split
  rw [decide_eq_true (by omega)]
  simp only [List.isEmpty_cons, Bool.not_false, Bool.and_self, cond_true]
  exact congrArg some (split_one c _ s (Nat.le_refl _))
/-! ### The document's Split -/
theorem bL_at {s : By} {i : Nat} (h : i < s.length) : bL s (i : Int) = ((s[i].toNat : Nat) : Int) := by
  unfold bL
  simp [h]
theorem ref_split_loop {s : By} {c : UInt8} (hs : s.length ≤ 4194304) : ∀ k i fr (l : List By), i + k = s.length → fr ≤ i → c ∉ (s.drop fr).take (i - fr) → l.length ≤ i →
    ref02_Split_p87 (s, (c.toNat : Int), (fr : Int), (i : Int), l) = some (l ++ spl c (s.drop fr)) := by
  intro k
  induction k with
  | zero =>
    intro i fr l h1 h2 h3 h4
    have e1 : IntKind.i64.wrap ((i : Int) + 1) = ((i + 1 : Nat) : Int) := by rw [wrap_i64 (by omega) (by omega)]; omega
    rw [List.take_of_length_le (by simp; omega)] at h3
    have step : ref02_Split_p87b (s, (c.toNat : Int), (fr : Int), (i : Int), l) = some (.inl (s, (c.toNat : Int), ((i + 1 : Nat) : Int), ((i + 1 : Nat) : Int), l ++ [s.drop fr])) := by
      unfold ref02_Split_p87b
      simp only
      rw [bif_dec (by omega), show ((i : Int) == (s.length : Int)) = true by rw [beq_iff_eq]; omega, cond_true, bif_dec (by omega), bif_dec (by omega), bif_dec (by omega), fits_of (by omega) (by decide), e1]
      simp only [cond_true, Int.toNat_natCast]
      rw [List.take_of_length_le (by simp; omega)]
    have fin : ref02_Split_p87b (s, (c.toNat : Int), ((i + 1 : Nat) : Int), ((i + 1 : Nat) : Int), l ++ [s.drop fr]) = some (.inr (l ++ [s.drop fr])) := by
      unfold ref02_Split_p87b
      simp only
      rw [bif_ndec (by omega)]
    unfold ref02_Split_p87
    rw [iter_go step, iter_end fin, spl_none h3]
  | succ k ih =>
    intro i fr l h1 h2 h3 h4
    have hi : i < s.length := by omega
    have e1 : IntKind.i64.wrap ((i : Int) + 1) = ((i + 1 : Nat) : Int) := by rw [wrap_i64 (by omega) (by omega)]; omega
    have e0 : ((i : Int) == (s.length : Int)) = false := by rw [beq_eq_false_iff_ne]; omega
    by_cases hc : s[i] = c
    · have := ih (i + 1) (i + 1) (l ++ [(s.drop fr).take (i - fr)]) (by omega) (Nat.le_refl _) (by simp) (by simp; omega)
      have e2 : s.drop fr = (s.drop fr).take (i - fr) ++ c :: s.drop (i + 1) := by
        conv => lhs; rw [← List.take_append_drop (i - fr) (s.drop fr)]
        rw [List.drop_drop, show fr + (i - fr) = i by omega, List.drop_eq_getElem_cons hi, hc]
      conv => rhs; rw [e2, spl_app, spl_none h3, ← List.append_assoc, ← this]
      unfold ref02_Split_p87
      refine iter_go ?_
      unfold ref02_Split_p87b
      simp only
      rw [bif_dec (by omega), e0, cond_false, bif_dec (by omega), bif_dec (by omega), bL_at hi, show (((s[i].toNat : Nat) : Int) == (c.toNat : Int)) = true by rw [hc]; simp, cond_true, bif_dec (by omega), bif_dec (by omega), bif_dec (by omega), fits_of (by omega) (by decide), e1]
      simp only [cond_true, Int.toNat_natCast]
    · have := ih (i + 1) fr l (by omega) (by omega) (by
        have e3 : i + 1 - fr = (i - fr) + 1 := by omega
        have hl : i - fr < (s.drop fr).length := by simp; omega
        rw [e3, List.take_succ_eq_append_getElem hl, List.mem_append, not_or]
        refine ⟨h3, ?_⟩
        simp only [List.getElem_drop, List.mem_cons, List.not_mem_nil, or_false]
        intro e
        apply hc
        rw [e]
        congr 1
        omega) (by omega)
      rw [← this]
      unfold ref02_Split_p87
      refine iter_go ?_
      unfold ref02_Split_p87b
      simp only
      have e4 : (((s[i].toNat : Nat) : Int) == (c.toNat : Int)) = false := by
        rw [beq_eq_false_iff_ne]
        intro e
        exact hc (UInt8.toNat_inj.1 (by omega))
      rw [bif_dec (by omega), e0, cond_false, bif_dec (by omega), bif_dec (by omega), bL_at hi, e4, e1]
      rfl
theorem ref_Split_eq {s : By} {c : UInt8} (hs : s.length ≤ 4194304) : ref02_Split s c = some (spl c s) := by
  unfold ref02_Split
  have := ref_split_loop (c := c) hs s.length 0 0 [] (by omega) (by omega) (by simp) (by simp)
  rw [show ref02_Split_p87 (s, (c.toNat : Int), 0, 0, []) = _ from this]
  rfl
theorem spl_len (c : UInt8) : ∀ s : By, (spl c s).length ≤ s.length + 1 ∧ ∀ x ∈ spl c s, x.length ≤ s.length
  | [] => by simp [spl]
  | x :: s => by
    obtain ⟨h1, h2⟩ := spl_len c s
    unfold spl
    split
    · refine ⟨by simp; omega, fun y hy => ?_⟩
      rcases List.mem_cons.1 hy with e | e
      · subst e; simp
      · have := h2 y e; simp; omega
    · cases h : spl c s with
      | nil => exact absurd h (spl_ne c s)
      | cons y r =>
        rw [h] at h1 h2
        refine ⟨by simpa using by simp at h1; omega, fun z hz => ?_⟩
        rcases List.mem_cons.1 hz with e | e
        · subst e; have := h2 y (by simp); simp; omega
        · have := h2 z (by simp [e]); simp; omega
end Go.Proofs.YtfaofikhabccoaaGreatDoor.Jv.A
