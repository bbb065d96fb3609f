/- A number's digits, as the laws write them; conditions: none. -/
import Derived.Test.YtfaofikhabccoaaGreatDoorHeadersL
namespace Go.Proofs.YtfaofikhabccoaaGreatDoor.Jv
open Go A
set_option linter.unusedSectionVars false
set_option linter.unusedVariables false
set_option linter.unusedSimpArgs false
def dg (d : Nat) : UInt8 := UInt8.ofNat (48 + d)
def dgF : Nat → Nat → By
  | 0, _ => []
  | k + 1, n => if n < 10 then [dg n] else dgF k (n / 10) ++ [dg (n % 10)]
theorem dg_nat {d : Nat} (h : d < 10) : (dg d).toNat = 48 + d := by
  unfold dg
  rw [UInt8.toNat_ofNat_of_lt' (show 48 + d < 256 by omega)]
theorem dv_dg {d : Nat} (h : d < 10) : dv (dg d) = d := by
  unfold dv
  rw [dg_nat h, if_pos (by omega)]
  omega
theorem dgF_in : ∀ (k n : Nat), ∀ c ∈ dgF k n, 48 ≤ c.toNat ∧ c.toNat ≤ 57
  | 0, n, c, h => by cases h
  | k + 1, n, c, h => by
    unfold dgF at h
    split at h
    · rw [List.mem_singleton.1 h, dg_nat (by omega)]; omega
    · rcases List.mem_append.1 h with h | h
      · exact dgF_in k _ c h
      · rw [List.mem_singleton.1 h, dg_nat (by omega)]; omega
theorem dgF_ne (k n : Nat) : dgF (k + 1) n ≠ [] := by
  unfold dgF
  split <;> simp
theorem dgF_len : ∀ (k n : Nat), (dgF k n).length ≤ k
  | 0, n => Nat.le_refl _
  | k + 1, n => by
    unfold dgF
    split
    · simp
    · have := dgF_len k (n / 10)
      simp
      omega
theorem dgF_small {k n : Nat} (h : n < 10) : dgF (k + 1) n = [dg (n % 10)] := by rw [dgF, if_pos h, Nat.mod_eq_of_lt h]
theorem dgF_big {k n : Nat} (h : ¬ n < 10) : dgF (k + 1) n = dgF k (n / 10) ++ [dg (n % 10)] := by rw [dgF, if_neg h]
theorem refN_snoc (m : Nat) : ∀ (l : By) (a : Nat) (c : UInt8), refN 10 m a (l ++ [c]) = (refN 10 m a l).bind fun v => if 10 ≤ dv c then none else if m < v * 10 + dv c then none else some (v * 10 + dv c)
  | [], a, c => by simp [refN]
  | b :: l, a, c => by
    rw [List.cons_append, refN, refN]
    split
    · rfl
    · split
      · rfl
      · exact refN_snoc m l _ c
theorem refN_dgF (m : Nat) : ∀ (k n : Nat), n < 10 ^ (k + 1) → n ≤ m → refN 10 m 0 (dgF (k + 1) n) = some n := by
  intro k
  induction k with
  | zero =>
    intro n h1 h2
    have : n < 10 := by simpa using h1
    rw [dgF, if_pos this, refN, dv_dg this, if_neg (by omega), if_neg (by omega), refN]
    simp
  | succ k ih =>
    intro n h1 h2
    rw [dgF]
    by_cases hn : n < 10
    · rw [if_pos hn, refN, dv_dg hn, if_neg (by omega), if_neg (by omega), refN]
      simp
    · rw [if_neg hn, refN_snoc, ih (n / 10) (by rw [Nat.pow_succ] at h1; omega) (by omega)]
      simp only [Option.bind_some]
      rw [dv_dg (by omega), if_neg (by omega), if_neg (by omega)]
      congr 1
      omega
theorem dgF_head : ∀ (k n : Nat), 0 < n → n < 10 ^ (k + 1) → (dgF (k + 1) n)[0]? ≠ some 48 := by
  intro k
  induction k with
  | zero =>
    intro n h0 h1 e
    have : n < 10 := by simpa using h1
    rw [dgF, if_pos this] at e
    have := congrArg UInt8.toNat (Option.some.inj e)
    rw [dg_nat (by omega)] at this
    have h48 : (48 : UInt8).toNat = 48 := rfl
    omega
  | succ k ih =>
    intro n h0 h1 e
    rw [dgF] at e
    by_cases hn : n < 10
    · rw [if_pos hn] at e
      have := congrArg UInt8.toNat (Option.some.inj e)
      rw [dg_nat (by omega)] at this
      have h48 : (48 : UInt8).toNat = 48 := rfl
      omega
    · rw [if_neg hn] at e
      have hpos := List.length_pos_iff.2 (dgF_ne k (n / 10))
      rw [List.getElem?_append_left hpos] at e
      exact ih (n / 10) (by omega) (by rw [Nat.pow_succ] at h1; omega) e
theorem dec_dgF {m k n : Nat} (h : n < 10 ^ (k + 1)) (hm : n ≤ m) : decM m (dgF (k + 1) n) = some n := by
  unfold decM
  rw [if_neg, refN_dgF m k n h hm]
  intro e
  rcases e with e | ⟨e1, e2⟩
  · exact dgF_ne _ _ e
  · by_cases h0 : n = 0
    · subst h0
      rw [dgF, if_pos (by omega)] at e1
      simp at e1
    · exact dgF_head k n (by omega) h e2
theorem encode_dg : ∀ d : Nat, d < 10 → (Utf8.encode (IntKind.i32.wrap (IntKind.i64.wrap (48 + (d : Int))))).data.toList = [dg d] := by decide +kernel
/-- One turn of a law's loop over a number. -/
theorem dig_digit (n : Nat) : (Utf8.encode (IntKind.i32.wrap (IntKind.i64.wrap (48 + Int.tmod (n : Int) 10)))).data.toList = [dg (n % 10)] := by
  have : Int.tmod (n : Int) 10 = ((n % 10 : Nat) : Int) := by rw [Int.tmod_eq_emod_of_nonneg (by omega)]; omega
  rw [this]
  exact encode_dg _ (Nat.mod_lt _ (by decide))
theorem dig_tenth {n : Nat} (h : n ≤ 1048576) : IntKind.i64.wrap (Int.tdiv (n : Int) 10) = ((n / 10 : Nat) : Int) := by
  rw [Int.tdiv_eq_ediv_of_nonneg (by omega), wrap_i64 (by omega) (by omega)]
  omega
theorem isB_dig {c : UInt8} (h : 48 ≤ c.toNat ∧ c.toNat ≤ 57) : isB c = false := by
  cases hb : isB c with
  | false => rfl
  | true =>
    rcases (isB_iff c).1 hb with e | e <;> subst e <;> simp at h
theorem trm_eq (s : By) : trm s = ((s.reverse.dropWhile isB).reverse).dropWhile isB := rfl
theorem dropWhile_none {p : UInt8 → Bool} : ∀ {l : By}, (∀ c ∈ l, p c = false) → l.dropWhile p = l
  | [], _ => rfl
  | c :: l, h => by rw [List.dropWhile_cons, h c List.mem_cons_self]; rfl
theorem trm_dig {s : By} (h : ∀ c ∈ s, 48 ≤ c.toNat ∧ c.toNat ≤ 57) : trm (32 :: s) = s := by
  rw [trm_eq, ← trim_two]
  have : (32 :: s).dropWhile isB = s := by
    rw [List.dropWhile_cons]
    have : isB 32 = true := rfl
    rw [this, if_pos rfl]
    exact dropWhile_none fun c hc => isB_dig (h c hc)
  rw [this, dropWhile_none fun c hc => isB_dig (h c (List.mem_reverse.1 hc)), List.reverse_reverse]
end Go.Proofs.YtfaofikhabccoaaGreatDoor.Jv
