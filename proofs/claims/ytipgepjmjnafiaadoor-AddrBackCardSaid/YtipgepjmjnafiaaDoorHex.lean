/- FormatUint to base 16: the digits; conditions: none. -/
import Derived.Test.YtipgepjmjnafiaaDoorDigs
namespace Go.Proofs.YtipgepjmjnafiaaDoor.Jv
open Go
set_option linter.unusedSectionVars false
set_option linter.unusedVariables false
set_option linter.unusedSimpArgs false
theorem bL_dg : ∀ d, d < 16 → (bL ([48, 49, 50, 51, 52, 53, 54, 55, 56, 57, 97, 98, 99, 100, 101, 102, 103, 104, 105, 106, 107, 108, 109, 110, 111, 112, 113, 114, 115, 116, 117, 118, 119, 120, 121, 122] : List UInt8) ((d : Nat) : Int)).toNat = (dg d).toNat := by decide
theorem bL_dg' {d : Nat} (h : d < 16) : UInt8.ofNat (bL ([48, 49, 50, 51, 52, 53, 54, 55, 56, 57, 97, 98, 99, 100, 101, 102, 103, 104, 105, 106, 107, 108, 109, 110, 111, 112, 113, 114, 115, 116, 117, 118, 119, 120, 121, 122] : List UInt8) ((d : Nat) : Int)).toNat = dg d := by
  rw [bL_dg d h, ofNat_toNat8]
theorem shr4 (x : Nat) : ishr .u64 (x : Int) 4 = ((x / 16 : Nat) : Int) := ishr_nat (k := .u64) (n := 4) (by decide)
theorem and15 {x : Nat} (hx : x < 18446744073709551616) : iand .u64 (x : Int) 15 = ((x % 16 : Nat) : Int) := iand_u64 (n := 4) hx (by decide)
theorem hex_ge (x : Nat) : decide ((x : Int) ≥ 16) = decide (16 ≤ x) := by
  cases h : decide (16 ≤ x) with
  | true => exact decide_eq_true (by have := of_decide_eq_true h; omega)
  | false => exact decide_eq_false (by have := of_decide_eq_false h; omega)
theorem hex_nn (x : Nat) : decide ((0 : Int) ≤ (x : Int)) = true := decide_eq_true (by omega)
theorem hex_36 {x : Nat} (h : x < 36) : decide ((x : Int) < 36) = true := decide_eq_true (by omega)
theorem hex16_eq {n : Nat} (hn : n < 65536) : hex16 (n : Int) = some (digs 16 4 n) := by
  have m0 : n % 16 < 16 := Nat.mod_lt _ (by decide)
  have m1 : n / 16 % 16 < 16 := Nat.mod_lt _ (by decide)
  have m2 : n / 16 / 16 % 16 < 16 := Nat.mod_lt _ (by decide)
  unfold hex16
  simp only [shr4, hex_ge]
  simp only [and15 (show n < 18446744073709551616 by omega), and15 (show n / 16 < 18446744073709551616 by omega), and15 (show n / 16 / 16 < 18446744073709551616 by omega), and15 (show n / 16 / 16 / 16 < 18446744073709551616 by omega), and15 (show n / 16 / 16 / 16 / 16 < 18446744073709551616 by omega), hex_nn, cond_true,
    hex_36 (show n % 16 < 36 by omega), hex_36 (show n / 16 % 16 < 36 by omega), hex_36 (show n / 16 / 16 % 16 < 36 by omega), bL_dg' m0, bL_dg' m1, bL_dg' m2]
  have d4 : n / 16 / 16 / 16 < 16 := by omega
  simp only [digs]
  by_cases h0 : n < 16
  · simp only [decide_eq_false (show ¬ 16 ≤ n by omega), cond_false, hex_36 (show n < 36 by omega), cond_true, bL_dg' h0, if_pos h0, Option.bind_some]
  · rw [if_neg h0]
    simp only [decide_eq_true (show 16 ≤ n by omega), cond_true]
    by_cases h1 : n / 16 < 16
    · simp only [decide_eq_false (show ¬ 16 ≤ n / 16 by omega), cond_false, hex_36 (show n / 16 < 36 by omega), cond_true, bL_dg' h1, if_pos h1, Option.bind_some]
      rfl
    · rw [if_neg h1]
      simp only [decide_eq_true (show 16 ≤ n / 16 by omega), cond_true]
      by_cases h2 : n / 16 / 16 < 16
      · simp only [decide_eq_false (show ¬ 16 ≤ n / 16 / 16 by omega), cond_false, hex_36 (show n / 16 / 16 < 36 by omega), cond_true, bL_dg' h2, if_pos h2, Option.bind_some]
        rfl
      · rw [if_neg h2, if_pos d4]
        simp only [decide_eq_true (show 16 ≤ n / 16 / 16 by omega), cond_true, decide_eq_false (show ¬ 16 ≤ n / 16 / 16 / 16 by omega), cond_false, hex_36 (show n / 16 / 16 / 16 < 36 by omega), bL_dg' d4, Option.bind_some]
        rfl
theorem fmt16_eq {n : Nat} (hn : n < 65536) : strconv_FormatUint (n : Int) 16 = some (digs 16 4 n) := by
  unfold strconv_FormatUint fmtU
  rw [show ((16 : Int) == 16) = true from rfl, cond_true, hex16_eq hn]
/-- Just one number's digits are a single 0. -/
theorem digs_zero {n : Nat} (hn : n < 65536) : (digs 16 4 n == ([48] : List UInt8)) = decide (n = 0) := by
  by_cases h : n = 0
  · subst h; rfl
  · rw [decide_eq_false h, beq_eq_false_iff_ne]
    simp only [digs]
    have hdg : ∀ d, d < 16 → dg d = 48 → d = 0 := by decide
    split
    · rename_i h1
      intro e
      simp only [List.cons.injEq, and_true] at e
      exact h (hdg n h1 e)
    · split
      · intro e; simp at e
      · split
        · intro e; simp at e
        · intro e
          have := congrArg List.length e
          simp at this
end Go.Proofs.YtipgepjmjnafiaaDoor.Jv
