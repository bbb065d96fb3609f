/- Masks of addresses, by both; conditions: none. -/
import Derived.Test.YtipgepjmjnafiaaDoorAddrB
namespace Go.Proofs.YtipgepjmjnafiaaDoor.Jv
open Go
set_option linter.unusedSectionVars false
set_option linter.unusedVariables false
set_option linter.unusedSimpArgs false
theorem u64_nat {x : Int} (h : okT (.int .u64) x) : ∃ n : Nat, x = (n : Int) ∧ n < 18446744073709551616 := by
  obtain ⟨h1, h2⟩ := h
  rw [show IntKind.u64.min = 0 by decide +kernel] at h1
  rw [show IntKind.u64.max = 18446744073709551615 by decide +kernel] at h2
  have h1' : (0 : Int) ≤ x := h1
  have h2' : x ≤ (18446744073709551615 : Int) := h2
  clear h1 h2
  exact ⟨x.toNat, by omega, by omega⟩
theorem right_cases {f : Int} {h l : Nat} (hh : h < 18446744073709551616) (hl : l < 18446744073709551616) : okA f h l ∨ (¬ okA f h l ∧ addr_Right (f, (h : Int), (l : Int)) = some false ∧ ref02_Right (f, (h : Int), (l : Int)) = some false) := by
  by_cases ho : okA f h l
  · exact .inl ho
  refine .inr ⟨ho, ?_⟩
  have h6 : f ≠ 6 := fun e => ho (.inr ⟨e, hh, hl⟩)
  have e6 : (f == 6) = false := by simpa using h6
  by_cases h4 : f = 4
  · subst h4
    by_cases h0 : h = 0
    · subst h0
      have hl4 : ¬ l < 4294967296 := fun e => ho (.inl ⟨rfl, rfl, e⟩)
      have hs : (ishr .u64 (l : Int) 32 == 0) = false := by
        rw [show (32 : Int) = ((32 : Nat) : Int) from rfl, ishr_nat (by decide)]
        have : ¬ ((l / 2 ^ 32 : Nat) : Int) = 0 := by omega
        simpa using this
      have hl' : ¬ (l : Int) < 4294967296 := by omega
      unfold addr_Right ref02_Right
      simp only [show ((4 : Int) == 4) = true from rfl, show ((4 : Int) == 6) = false from rfl, show (((0 : Nat) : Int) == 0) = true from rfl, cond_true, cond_false, hs, decide_eq_false hl']
      constructor <;> trivial
    · have hz : ((h : Int) == 0) = false := by
        have : ¬ (h : Int) = 0 := by omega
        simpa using this
      unfold addr_Right ref02_Right
      simp only [show ((4 : Int) == 4) = true from rfl, show ((4 : Int) == 6) = false from rfl, hz, cond_true, cond_false]
      constructor <;> trivial
  · have e4 : (f == 4) = false := by simpa using h4
    unfold addr_Right ref02_Right
    simp only [e4, e6, cond_false]
    constructor <;> trivial
/-! ### A word whose low bits are off -/
def keep (s x : Nat) : Nat := x / 2 ^ s * 2 ^ s
theorem keep_le (s x : Nat) : keep s x ≤ x := Nat.div_mul_le_self _ _
theorem keep_bit (s x i : Nat) : (keep s x).testBit i = (decide (s ≤ i) && x.testBit i) := by
  unfold keep
  rw [← Nat.shiftRight_eq_div_pow, ← Nat.shiftLeft_eq, Nat.testBit_shiftLeft, Nat.testBit_shiftRight]
  by_cases h : s ≤ i
  · simp only [ge_iff_le, h, decide_true, Bool.true_and]; congr 1; omega
  · simp only [ge_iff_le, h, decide_false, Bool.false_and]
theorem keep_keep {s t : Nat} (h : s ≤ t) (x : Nat) : keep t (keep s x) = keep t x := by
  refine Nat.eq_of_testBit_eq fun i => ?_
  rw [keep_bit, keep_bit, keep_bit]
  by_cases h1 : t ≤ i
  · have : s ≤ i := by omega
    simp [h1, this]
  · simp [h1]
theorem keep_keep' {s t : Nat} (h : t ≤ s) (x : Nat) : keep t (keep s x) = keep s x := by
  refine Nat.eq_of_testBit_eq fun i => ?_
  rw [keep_bit, keep_bit]
  by_cases h1 : s ≤ i
  · have : t ≤ i := by omega
    simp [h1, this]
  · simp [h1]
theorem keep_zero (x : Nat) : keep 0 x = x := by simp [keep]
theorem and_mask {s x : Nat} (hs : s ≤ 64) (hx : x < 18446744073709551616) : x &&& (18446744073709551616 - 2 ^ s) = keep s x := by
  refine Nat.eq_of_testBit_eq fun i => ?_
  rw [Nat.testBit_and, keep_bit]
  have e : 18446744073709551616 - 2 ^ s = (2 ^ (64 - s) - 1) <<< s := by
    rw [Nat.shiftLeft_eq, Nat.sub_mul, ← Nat.pow_add, Nat.sub_add_cancel hs, Nat.one_mul]
  rw [e, Nat.testBit_shiftLeft, Nat.testBit_two_pow_sub_one]
  by_cases h : s ≤ i
  · by_cases h64 : i < 64
    · have : i - s < 64 - s := by omega
      simp [h, this]
    · have hz : x.testBit i = false := Nat.testBit_lt_two_pow (Nat.lt_of_lt_of_le hx (show 2 ^ 64 ≤ 2 ^ i from Nat.pow_le_pow_right (by decide) (by omega)))
      simp [hz]
  · simp [h]
theorem high_tab : ∀ m : Fin 65, ixor .u64 18446744073709551615 (ishr .u64 18446744073709551615 ((m.val : Nat) : Int)) = ((18446744073709551616 - 2 ^ (64 - m.val) : Nat) : Int) := by decide +kernel
/-- How many bits a word keeps. -/
def cl (n : Int) : Nat := if n < 0 then 0 else if 64 < n then 64 else n.toNat
theorem cl_le (n : Int) : cl n ≤ 64 := by unfold cl; split; · omega
                                          · split <;> omega
theorem addr_high_eq (n : Int) : addr_high n = some ((18446744073709551616 - 2 ^ (64 - cl n) : Nat) : Int) := by
  have h := high_tab ⟨cl n, by have := cl_le n; omega⟩
  have e : (if 64 < (if n < 0 then 0 else n) then 64 else (if n < 0 then 0 else n)) = ((cl n : Nat) : Int) := by
    unfold cl
    by_cases h1 : n < 0
    · simp [h1]
    · by_cases h2 : 64 < n
      · simp [h1, h2]
      · simp only [h1, h2, if_false]; omega
  unfold addr_high
  rw [e, bif_dec (by omega)]
  exact congrArg some h
theorem iand_high {x : Nat} (hx : x < 18446744073709551616) (n : Int) : iand .u64 (x : Int) ((18446744073709551616 - 2 ^ (64 - cl n) : Nat) : Int) = ((keep (64 - cl n) x : Nat) : Int) := by
  have hp : 0 < 2 ^ (64 - cl n) := Nat.pow_pos (by decide)
  have hk := keep_le (64 - cl n) x
  have hb : 2 ^ IntKind.u64.bits = 18446744073709551616 := by decide
  rw [iand_nat (by omega) (by omega), and_mask (by omega) hx]
  exact wrap_u64 (by omega) (by omega)
/-- The address that a mask leaves. -/
def mkH (f : Int) (h : Nat) (n : Int) : Nat := if f = 4 then 0 else keep (64 - cl n) h
def mkL (f : Int) (l : Nat) (n : Int) : Nat := if f = 4 then keep (64 - cl (n + 32)) l else keep (64 - cl (n - 64)) l
theorem okA_mk {f : Int} {h l : Nat} (ho : okA f h l) (n : Int) : okA f (mkH f h n) (mkL f l n) := by
  rcases ho with ⟨rfl, rfl, hl⟩ | ⟨rfl, hh, hl⟩
  · refine .inl ⟨rfl, rfl, ?_⟩
    simp only [mkL, if_true]
    have := keep_le (64 - cl (n + 32)) l
    omega
  · refine .inr ⟨rfl, ?_, ?_⟩
    · simp only [mkH, show ¬ ((6 : Int) = 4) by decide, if_false]
      have := keep_le (64 - cl n) h
      omega
    · simp only [mkL, show ¬ ((6 : Int) = 4) by decide, if_false]
      have := keep_le (64 - cl (n - 64)) l
      omega
theorem cl_mono {m n : Int} (h : m ≤ n) : cl m ≤ cl n := by unfold cl; split <;> split <;> (try split) <;> (try split) <;> omega
theorem mk_mk {f : Int} {h l : Nat} {m n : Int} (hm : m ≤ n) : mkH f (mkH f h n) m = mkH f h m ∧ mkL f (mkL f l n) m = mkL f l m := by
  unfold mkH mkL
  by_cases e : f = 4
  · simp only [e, if_true, true_and]
    exact keep_keep (by have := cl_mono (show m + 32 ≤ n + 32 by omega); omega) l
  · simp only [e, if_false]
    exact ⟨keep_keep (by have := cl_mono hm; omega) h, keep_keep (by have := cl_mono (show m - 64 ≤ n - 64 by omega); omega) l⟩
/-- A mask, if the address is right and has so many bits. -/
noncomputable def maskN (f : Int) (h l : Nat) (n : Int) : (Int × Int × Int) × Int :=
  open Classical in if okA f h l ∧ 0 ≤ n ∧ n ≤ ((8 * octN f : Nat) : Int) then ((f, ((mkH f h n : Nat) : Int), ((mkL f l n : Nat) : Int)), 0) else ((0, 0, 0), 1)
theorem addr_Mask_eq {f : Int} {h l : Nat} (hh : h < 18446744073709551616) (hl : l < 18446744073709551616) (n : Int) : addr_Mask (f, (h : Int), (l : Int)) n = some (maskN f h l n) := by
  unfold addr_Mask addr_Mask_p5
  rcases right_cases (f := f) hh hl with ho | ⟨ho, h1, _⟩
  · have hb : addr_bits (f, (h : Int), (l : Int)) = some ((8 * octN f : Nat) : Int) := by
      rcases ho with ⟨rfl, _⟩ | ⟨rfl, _⟩ <;> rfl
    simp only [addr_Right_ok ho, Option.bind_some, Bool.not_true, cond_false]
    by_cases h0 : n < 0
    · rw [bif_dec h0]
      simp only [Option.bind_some, Sum.elim_inr, maskN]
      rw [if_neg (by omega)]
    · rw [bif_ndec h0]
      simp only [hb, Option.bind_some]
      by_cases h1 : n > ((8 * octN f : Nat) : Int)
      · rw [bif_dec h1]
        simp only [Option.bind_some, Sum.elim_inr, maskN]
        rw [if_neg (by omega)]
      · rw [bif_ndec h1]
        simp only [Option.bind_some, Sum.elim_inl, maskN]
        rw [if_pos ⟨ho, by omega, by omega⟩]
        have ho' := ho
        rcases ho with ⟨rfl, rfl, hl4⟩ | ⟨rfl, _, _⟩
        · simp only [octN, if_true] at h1
          simp only [beq_self_eq_true, cond_true, wrap_i64 (show -9223372036854775808 ≤ n + 32 by omega) (by omega), addr_high_eq, Option.bind_some, iand_high hl, mkH, mkL, if_true]
          try rfl
        · simp only [octN, show ¬ ((6 : Int) = 4) by decide, if_false] at h1
          simp only [show ((6 : Int) == 4) = false by decide, cond_false, wrap_i64 (show -9223372036854775808 ≤ n - 64 by omega) (by omega), addr_high_eq, Option.bind_some, iand_high hl, iand_high hh, mkH, mkL, show ¬ ((6 : Int) = 4) by decide, if_false]
  · simp only [h1, Option.bind_some, Bool.not_false, cond_true, Sum.elim_inr, maskN]
    rw [if_neg (fun e => ho e.1)]
end Go.Proofs.YtipgepjmjnafiaaDoor.Jv
