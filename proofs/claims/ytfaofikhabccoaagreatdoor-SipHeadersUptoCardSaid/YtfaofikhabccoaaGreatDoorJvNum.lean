/- Words of numbers: masks, shifts, wraps in range; conditions: none. -/
import Derived.Test.YtfaofikhabccoaaGreatDoorJvEv
namespace Go.Proofs.YtfaofikhabccoaaGreatDoor.Jv
open Go
set_option linter.unusedSectionVars false
set_option linter.unusedVariables false
set_option linter.unusedSimpArgs false
theorem wrap_i64 {x : Int} (h0 : -9223372036854775808 ≤ x) (h1 : x < 9223372036854775808) : IntKind.i64.wrap x = x := by
  simp only [IntKind.wrap, IntKind.signed, IntKind.bits]
  simp
  split <;> omega
theorem wrap_u64 {x : Int} (h0 : 0 ≤ x) (h1 : x < 18446744073709551616) : IntKind.u64.wrap x = x := by
  simp only [IntKind.wrap, IntKind.signed, IntKind.bits]
  simp
  omega
theorem wrap_u8 {x : Int} (h0 : 0 ≤ x) (h1 : x < 256) : IntKind.u8.wrap x = x := by
  simp only [IntKind.wrap, IntKind.signed, IntKind.bits]
  simp
  omega
theorem wrap_u8_mod (x : Int) : IntKind.u8.wrap x = x % 256 := by
  simp only [IntKind.wrap, IntKind.signed, IntKind.bits]
  simp
theorem ishr_nat {k : IntKind} {x n : Nat} (h : n ≤ k.bits) : ishr k (x : Int) (n : Int) = ((x / 2 ^ n : Nat) : Int) := by
  unfold ishr
  rw [Int.toNat_natCast, Nat.min_eq_left h, Int.fdiv_eq_ediv_of_nonneg _ (Int.le_of_lt (Int.pow_pos (by decide)))]
  push_cast
  rfl
theorem ofInt_nat (w x : Nat) : BitVec.ofInt w (x : Int) = BitVec.ofNat w x := BitVec.ofInt_natCast w x
theorem iand_nat {k : IntKind} {x m : Nat} (hx : x < 2 ^ k.bits) (hm : m < 2 ^ k.bits) : iand k (x : Int) (m : Int) = k.wrap ((x &&& m : Nat) : Int) := by
  unfold iand
  rw [ofInt_nat, ofInt_nat, BitVec.toNat_and, BitVec.toNat_ofNat, BitVec.toNat_ofNat, Nat.mod_eq_of_lt hx, Nat.mod_eq_of_lt hm]
theorem ior_nat {k : IntKind} {x m : Nat} (hx : x < 2 ^ k.bits) (hm : m < 2 ^ k.bits) : ior k (x : Int) (m : Int) = k.wrap ((x ||| m : Nat) : Int) := by
  unfold ior
  rw [ofInt_nat, ofInt_nat, BitVec.toNat_or, BitVec.toNat_ofNat, BitVec.toNat_ofNat, Nat.mod_eq_of_lt hx, Nat.mod_eq_of_lt hm]
/-- A mask's low bits. -/
theorem iand_u64 {x : Nat} {n : Nat} (hx : x < 18446744073709551616) (hn : n ≤ 63) : iand .u64 (x : Int) ((2 ^ n - 1 : Nat) : Int) = ((x % 2 ^ n : Nat) : Int) := by
  have h2 : 2 ^ n ≤ 2 ^ 63 := Nat.pow_le_pow_right (by decide) hn
  have hp : 0 < 2 ^ n := Nat.pow_pos (by decide)
  rw [iand_nat (k := .u64) (by simpa [IntKind.bits] using hx) (by simp only [IntKind.bits]; omega), Nat.and_two_pow_sub_one_eq_mod]
  exact wrap_u64 (by omega) (by have := Nat.mod_lt x hp; omega)
theorem ior_i64 {x b : Nat} {n : Nat} (hx : 2 ^ n * x + b < 9223372036854775808) (hb : b < 2 ^ n) : ior .i64 ((2 ^ n * x : Nat) : Int) (b : Int) = ((2 ^ n * x + b : Nat) : Int) := by
  have hbb : 2 ^ IntKind.i64.bits = 18446744073709551616 := by decide
  rw [ior_nat (k := .i64) (by omega) (by omega), ← Nat.two_pow_add_eq_or_of_lt hb]
  exact wrap_i64 (by omega) (by omega)
theorem ior_u64 {x b : Nat} {n : Nat} (hx : 2 ^ n * x + b < 18446744073709551616) (hb : b < 2 ^ n) : ior .u64 ((2 ^ n * x : Nat) : Int) (b : Int) = ((2 ^ n * x + b : Nat) : Int) := by
  have hbb : 2 ^ IntKind.u64.bits = 18446744073709551616 := by decide
  rw [ior_nat (k := .u64) (by omega) (by omega), ← Nat.two_pow_add_eq_or_of_lt hb]
  exact wrap_u64 (by omega) (by omega)
theorem ishl_i64 {x n : Nat} (hn : n ≤ 63) (hx : 2 ^ n * x < 9223372036854775808) : ishl .i64 (x : Int) (n : Int) = ((2 ^ n * x : Nat) : Int) := by
  unfold ishl
  rw [Int.toNat_natCast, show min n IntKind.i64.bits = n from Nat.min_eq_left (by simp only [IntKind.bits]; omega)]
  have : (x : Int) * 2 ^ n = ((2 ^ n * x : Nat) : Int) := by push_cast; exact Int.mul_comm _ _
  rw [this]
  exact wrap_i64 (by omega) (by omega)
theorem ishl_u64 {x n : Nat} (hn : n ≤ 63) (hx : 2 ^ n * x < 18446744073709551616) : ishl .u64 (x : Int) (n : Int) = ((2 ^ n * x : Nat) : Int) := by
  unfold ishl
  rw [Int.toNat_natCast, show min n IntKind.u64.bits = n from Nat.min_eq_left (by simp only [IntKind.bits]; omega)]
  have : (x : Int) * 2 ^ n = ((2 ^ n * x : Nat) : Int) := by push_cast; exact Int.mul_comm _ _
  rw [this]
  exact wrap_u64 (by omega) (by omega)
theorem ofNat_toNat8 (x : UInt8) : UInt8.ofNat x.toNat = x := UInt8.ofNat_toNat
/-- Loops that go on, and loops that end. -/
theorem iter_go {γ δ : Type} {B : γ → Option (γ ⊕ δ)} {s s' : γ} (h : B s = some (.inl s')) : iter B s = iter B s' := by
  rw [iter_step, h]; rfl
theorem iter_end {γ δ : Type} {B : γ → Option (γ ⊕ δ)} {s : γ} {o : δ} (h : B s = some (.inr o)) : iter B s = some o := by
  rw [iter_step, h]; rfl
theorem bif_dec {p : Prop} [Decidable p] {α : Type} {a b : α} (h : p) : (bif decide p then a else b) = a := by simp [h]
theorem bif_ndec {p : Prop} [Decidable p] {α : Type} {a b : α} (h : ¬ p) : (bif decide p then a else b) = b := by simp [h]
end Go.Proofs.YtfaofikhabccoaaGreatDoor.Jv
