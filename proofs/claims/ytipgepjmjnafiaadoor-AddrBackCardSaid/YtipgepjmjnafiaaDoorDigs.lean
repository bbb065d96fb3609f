/- Numbers' digits, by both; conditions: none. -/
import Derived.Test.YtipgepjmjnafiaaDoorAddrB
namespace Go.Proofs.YtipgepjmjnafiaaDoor.Jv
open Go
set_option linter.unusedSectionVars false
set_option linter.unusedVariables false
set_option linter.unusedSimpArgs false
/-- A digit. -/
def dg (d : Nat) : UInt8 := ([48, 49, 50, 51, 52, 53, 54, 55, 56, 57, 97, 98, 99, 100, 101, 102] : List UInt8).getD d 0
def digs (b : Nat) : Nat → Nat → List UInt8
  | 0, _ => []
  | k + 1, n => if n < b then [dg n] else digs b k (n / b) ++ [dg (n % b)]
theorem digs_len (b : Nat) : ∀ k n, (digs b k n).length ≤ k
  | 0, _ => by simp [digs]
  | k + 1, n => by
    unfold digs
    split
    · simp
    · have := digs_len b k (n / b)
      simp only [List.length_append, List.length_cons, List.length_nil]
      omega
theorem dg_dec : ∀ d, d < 10 → dg d = UInt8.ofNat (48 + d) := by decide
theorem decF_digs : ∀ k n, decF k n = digs 10 k n
  | 0, _ => rfl
  | k + 1, n => by
    unfold decF digs
    by_cases h : n < 10
    · simp only [h, decide_true, cond_true, if_true, dg_dec n h]
    · simp only [h, decide_false, cond_false, if_false]
      rw [decF_digs k, dg_dec (n % 10) (Nat.mod_lt _ (by decide))]
theorem wrap_nat {x : Nat} (h : x < 9223372036854775808) : IntKind.i64.wrap (x : Int) = (x : Int) := wrap_i64 (by omega) (by omega)
theorem itoa_digs {n : Nat} (hn : n < 9223372036854775808) : strconv_Itoa (n : Int) = some (digs 10 20 n) := by
  unfold strconv_Itoa itoaL
  have h1 : decide (-9223372036854775808 ≤ (n : Int)) = true := decide_eq_true (by omega)
  have h2 : decide ((n : Int) ≤ 9223372036854775807) = true := decide_eq_true (by omega)
  have h3 : decide ((n : Int) < 0) = false := decide_eq_false (by omega)
  rw [h1, h2, h3]
  simp only [Bool.and_self, cond_true, cond_false, Int.toNat_natCast, decF_digs]
/-- One round of the document's loop. -/
theorem dg_slice : ∀ d, d < 16 → ((([48, 49, 50, 51, 52, 53, 54, 55, 56, 57, 97, 98, 99, 100, 101, 102] : List UInt8).drop d).take (d + 1 - d)) = [dg d] := by decide
theorem digits_step {b : Nat} (hb : 2 ≤ b) (hb2 : b ≤ 16) {n : Nat} (hn : n < 9223372036854775807) {s : List UInt8} (hs : s.length ≤ 1000) {fi : Bool} (hf : fi = true ∨ 0 < n) :
    ref02_Digits_p43b ((n : Int), (b : Int), s, fi) = some (.inl (((n / b : Nat) : Int), (b : Int), dg (n % b) :: s, false)) := by
  have hm : n % b < b := Nat.mod_lt _ (by omega)
  have hd : n / b ≤ n := Nat.div_le_self _ _
  have e1 : Int.tmod (n : Int) (b : Int) = ((n % b : Nat) : Int) := rfl
  have e2 : Int.tdiv (n : Int) (b : Int) = ((n / b : Nat) : Int) := rfl
  have e3 : IntKind.i64.wrap (((n % b : Nat) : Int) + 1) = ((n % b + 1 : Nat) : Int) := by rw [wrap_i64 (by omega) (by omega)]; omega
  have e4 : IntKind.i64.wrap ((n / b : Nat) : Int) = ((n / b : Nat) : Int) := wrap_nat (Nat.lt_of_le_of_lt hd (by omega))
  have e5 : ((b : Int) != 0) = true := by rw [bne_iff_ne]; omega
  have e6 : decide ((0 : Int) ≤ ((n % b : Nat) : Int)) = true := decide_eq_true (by omega)
  have e7 : decide (((n % b : Nat) : Int) ≤ ((n % b + 1 : Nat) : Int)) = true := decide_eq_true (by omega)
  have e8 : decide (((n % b + 1 : Nat) : Int) ≤ 16) = true := decide_eq_true (by omega)
  have e9 : decide (([dg (n % b)] : List UInt8).length + s.length < 2 ^ 62) = true := decide_eq_true (Nat.lt_of_le_of_lt (m := 1 + 1000) (by simp only [List.length_cons, List.length_nil]; omega) (by decide))
  have e10 := dg_slice (n % b) (by omega)
  unfold ref02_Digits_p43b
  rcases hf with rfl | h0
  · simp only [cond_true, e1, e2, e3, e4, e5, e6, e7, e8, Int.toNat_natCast, e10, e9, List.singleton_append]
  · have e0 : decide ((n : Int) > 0) = true := decide_eq_true (by omega)
    cases fi <;> simp only [cond_true, cond_false, e0, e1, e2, e3, e4, e5, e6, e7, e8, Int.toNat_natCast, e10, e9, List.singleton_append]
theorem digits_loop {b : Nat} (hb : 2 ≤ b) (hb2 : b ≤ 16) : ∀ k n (s : List UInt8) (fi : Bool), n < b ^ k → n < 9223372036854775807 → s.length + k ≤ 1000 → (fi = true ∧ 0 < k ∨ 0 < n) → ref02_Digits_p43 ((n : Int), (b : Int), s, fi) = some (digs b k n ++ s) := by
  intro k
  induction k with
  | zero =>
    intro n s fi h _ _ hf
    simp only [Nat.pow_zero] at h
    rcases hf with ⟨_, h⟩ | h <;> omega
  | succ k ih =>
    intro n s fi h h63 hs hf
    unfold ref02_Digits_p43
    rw [iter_go (digits_step hb hb2 h63 (by omega) (hf.imp (·.1) id))]
    rw [digs]
    split
    · rename_i hn
      rw [Nat.div_eq_of_lt hn, Nat.mod_eq_of_lt hn]
      refine iter_end ?_
      unfold ref02_Digits_p43b
      rfl
    · rename_i hn
      have h1 : n / b < b ^ k := by
        rw [Nat.div_lt_iff_lt_mul (by omega)]
        rwa [Nat.pow_succ] at h
      have h2 : 0 < n / b := Nat.div_pos (by omega) (by omega)
      have := ih (n / b) (dg (n % b) :: s) false h1 (by have := Nat.div_le_self n b; omega) (by simp only [List.length_cons]; omega) (.inr h2)
      unfold ref02_Digits_p43 at this
      rw [this, List.append_assoc, List.singleton_append]
theorem digits10 {n : Nat} (hn : n < 9223372036854775807) : ref02_Digits (n : Int) 10 = some (digs 10 20 n) := by
  unfold ref02_Digits
  have := digits_loop (b := 10) (by decide) (by decide) 20 n [] true (by omega) hn (by decide) (.inl ⟨rfl, by decide⟩)
  rw [List.append_nil] at this
  rw [show (10 : Int) = ((10 : Nat) : Int) from rfl, this]
  rfl
theorem digits16 {n : Nat} (hn : n < 65536) : ref02_Digits (n : Int) 16 = some (digs 16 4 n) := by
  unfold ref02_Digits
  have := digits_loop (b := 16) (by decide) (by decide) 4 n [] true (by omega) (by omega) (by decide) (.inl ⟨rfl, by decide⟩)
  rw [List.append_nil] at this
  rw [show (16 : Int) = ((16 : Nat) : Int) from rfl, this]
  rfl
end Go.Proofs.YtipgepjmjnafiaaDoor.Jv
