/- The bytes of an address, by both; conditions: none. -/
import Derived.Test.YtipgepjmjnafiaaDoorFns
import Derived.Test.YtipgepjmjnafiaaDoorJvNum
namespace Go.Proofs.YtipgepjmjnafiaaDoor.Jv
open Go
set_option linter.unusedSectionVars false
set_option linter.unusedVariables false
set_option linter.unusedSimpArgs false
/-- The q-th byte of an address. -/
def oct (f : Int) (h l : Nat) (q : Nat) : Nat := if f = 4 then l / 2 ^ (24 - 8 * q) % 256 else if q < 8 then h / 2 ^ (56 - 8 * q) % 256 else l / 2 ^ (120 - 8 * q) % 256
def octN (f : Int) : Nat := if f = 4 then 4 else 16
def octs (f : Int) (h l : Nat) : List UInt8 := (List.range (octN f)).map fun q => UInt8.ofNat (oct f h l q)
/-- The word that holds a bit, and where the bit stands in it, from above. -/
def okA (f : Int) (h l : Nat) : Prop := (f = 4 ∧ h = 0 ∧ l < 4294967296) ∨ (f = 6 ∧ h < 18446744073709551616 ∧ l < 18446744073709551616)
def bitA (f : Int) (h l : Nat) (n : Nat) : Nat := if f = 4 then l / 2 ^ (31 - n) % 2 else if n < 64 then h / 2 ^ (63 - n) % 2 else l / 2 ^ (127 - n) % 2
theorem low_bit {x s : Nat} (hx : x < 18446744073709551616) (hs : s ≤ 63) : IntKind.i64.wrap (iand .u64 (ishr .u64 (x : Int) (s : Int)) 1) = ((x / 2 ^ s % 2 : Nat) : Int) := by
  have h1 : x / 2 ^ s ≤ x := Nat.div_le_self _ _
  rw [ishr_nat (by simp only [IntKind.bits]; omega), show (1 : Int) = ((2 ^ 1 - 1 : Nat) : Int) from rfl, iand_u64 (by omega) (by decide)]
  exact wrap_i64 (by omega) (by have := Nat.mod_lt (x / 2 ^ s) (show 0 < 2 ^ 1 by decide); omega)
theorem ref02_Bit_eq {f : Int} {h l n : Nat} (ho : okA f h l) (hn : n < 8 * octN f) : ref02_Bit (f, (h : Int), (l : Int)) (n : Int) = some ((bitA f h l n : Nat) : Int) := by
  unfold ref02_Bit bitA
  rcases ho with ⟨rfl, rfl, hl⟩ | ⟨rfl, hh, hl⟩
  · simp only [octN, if_true] at hn
    have e : IntKind.i64.wrap (31 - (n : Int)) = ((31 - n : Nat) : Int) := by rw [wrap_i64 (by omega) (by omega)]; omega
    simp only [beq_self_eq_true, cond_true, if_true, e]
    rw [bif_dec (by omega), low_bit (by omega) (by omega)]
  · simp only [octN, show ¬ ((6 : Int) = 4) by decide, if_false] at hn
    simp only [show ((6 : Int) == 4) = false by decide, cond_false, show ¬ ((6 : Int) = 4) by decide, if_false]
    by_cases h64 : n < 64
    · have e : IntKind.i64.wrap (63 - (n : Int)) = ((63 - n : Nat) : Int) := by rw [wrap_i64 (by omega) (by omega)]; omega
      rw [bif_dec (show (n : Int) < 64 by omega), if_pos h64, e, bif_dec (by omega), low_bit (by omega) (by omega)]
    · have e : IntKind.i64.wrap (127 - (n : Int)) = ((127 - n : Nat) : Int) := by rw [wrap_i64 (by omega) (by omega)]; omega
      rw [bif_ndec (show ¬ (n : Int) < 64 by omega), if_neg h64, e, bif_dec (by omega), low_bit (by omega) (by omega)]
/-- A byte out of its bits. -/
theorem bits_next (X s j : Nat) (h : j + 1 ≤ s) : 2 * (X / 2 ^ (s - j) % 2 ^ j) + X / 2 ^ (s - (j + 1)) % 2 = X / 2 ^ (s - (j + 1)) % 2 ^ (j + 1) := by
  have e : 2 ^ (s - j) = 2 ^ (s - (j + 1)) * 2 := by rw [← Nat.pow_succ]; congr 1; omega
  rw [e, ← Nat.div_div_eq_div_mul, show 2 ^ (j + 1) = 2 * 2 ^ j from Nat.pow_succ', Nat.mod_mul]
  omega
theorem inner_eq {f : Int} {h l : Nat} (ho : okA f h l) {i : Nat} (bs : List UInt8) {X s : Nat} (hs : 8 ≤ s) (hi : i + 8 ≤ 8 * octN f) (hb : ∀ j, j < 8 → bitA f h l (i + j) = X / 2 ^ (s - (j + 1)) % 2) :
    ∀ k j, j + k = 8 → ref02_Bytes_p21655 ((i : Int), ((X / 2 ^ (s - j) % 2 ^ j : Nat) : Int), (j : Int), f, (h : Int), (l : Int), bs) = some ((i : Int), ((X / 2 ^ (s - 8) % 2 ^ 8 : Nat) : Int), f, (h : Int), (l : Int), bs) := by
  have h128 : 8 * octN f ≤ 128 := by unfold octN; split <;> decide
  intro k
  induction k with
  | zero =>
    intro j hj
    have : j = 8 := by omega
    subst this
    unfold ref02_Bytes_p21655
    refine iter_end ?_
    unfold ref02_Bytes_p21655b
    rw [bif_ndec (by simp)]
  | succ k ih =>
    intro j hj
    rw [← ih (j + 1) (by omega)]
    unfold ref02_Bytes_p21655
    refine iter_go ?_
    unfold ref02_Bytes_p21655b
    have hm : X / 2 ^ (s - j) % 2 ^ j < 2 ^ j := Nat.mod_lt _ (Nat.pow_pos (by decide))
    have hj7 : 2 ^ j ≤ 2 ^ 7 := Nat.pow_le_pow_right (by decide) (by omega)
    have e1 : IntKind.i64.wrap ((i : Int) + (j : Int)) = ((i + j : Nat) : Int) := by rw [wrap_i64 (by omega) (by omega)]; omega
    have e2 : IntKind.i64.wrap ((j : Int) + 1) = ((j + 1 : Nat) : Int) := by rw [wrap_i64 (by omega) (by omega)]; omega
    have e3 : ior .i64 (ishl .i64 ((X / 2 ^ (s - j) % 2 ^ j : Nat) : Int) 1) ((bitA f h l (i + j) : Nat) : Int) = ((X / 2 ^ (s - (j + 1)) % 2 ^ (j + 1) : Nat) : Int) := by
      rw [hb j (by omega), show (1 : Int) = ((1 : Nat) : Int) from rfl, ishl_i64 (by decide) (by omega), ior_i64 (by omega) (Nat.mod_lt _ (by decide)), ← bits_next X s j (by omega)]
    simp only
    rw [bif_dec (by omega), e1, ref02_Bit_eq ho (by omega)]
    simp only [Option.bind_some, e2, e3]
/-- The bits of the q-th byte. -/
theorem byte_bits {f : Int} {h l : Nat} (ho : okA f h l) {q : Nat} (hq : q < octN f) : ∃ X s, 8 ≤ s ∧ (∀ j, j < 8 → bitA f h l (8 * q + j) = X / 2 ^ (s - (j + 1)) % 2) ∧ X / 2 ^ (s - 8) % 2 ^ 8 = oct f h l q := by
  rcases ho with ⟨rfl, rfl, hl⟩ | ⟨rfl, hh, hl⟩
  · simp only [octN, if_true] at hq
    refine ⟨l, 32 - 8 * q, by omega, fun j hj => ?_, ?_⟩
    · simp only [bitA, if_true]; congr 3; omega
    · simp only [oct, if_true]; congr 3; omega
  · simp only [octN, show ¬ ((6 : Int) = 4) by decide, if_false] at hq
    by_cases h8 : q < 8
    · refine ⟨h, 64 - 8 * q, by omega, fun j hj => ?_, ?_⟩
      · simp only [bitA, show ¬ ((6 : Int) = 4) by decide, if_false]; rw [if_pos (by omega)]; congr 3; omega
      · simp only [oct, show ¬ ((6 : Int) = 4) by decide, if_false, h8, if_true]; congr 3; omega
    · refine ⟨l, 128 - 8 * q, by omega, fun j hj => ?_, ?_⟩
      · simp only [bitA, show ¬ ((6 : Int) = 4) by decide, if_false]; rw [if_neg (by omega)]; congr 3; omega
      · simp only [oct, show ¬ ((6 : Int) = 4) by decide, if_false, h8]; congr 3; omega
theorem oct_lt (f : Int) (h l q : Nat) : oct f h l q < 256 := by
  unfold oct
  split
  · exact Nat.mod_lt _ (by decide)
  · split <;> exact Nat.mod_lt _ (by decide)
theorem octN_le (f : Int) : octN f ≤ 16 := by unfold octN; split <;> decide
theorem size_eq {f : Int} {h l : Nat} (ho : okA f h l) : ref02_Size f = some ((8 * octN f : Nat) : Int) := by
  rcases ho with ⟨rfl, _⟩ | ⟨rfl, _⟩ <;> rfl
theorem fits16 {n b : Nat} (hn : n ≤ 17) (hb : b ≤ 64) : fits n b = true := by
  unfold fits
  have : n * (b + 1) ≤ 17 * 65 := Nat.mul_le_mul hn (by omega)
  exact decide_eq_true (Nat.lt_of_le_of_lt this (by decide))
theorem outer_eq {f : Int} {h l : Nat} (ho : okA f h l) : ∀ k q (bs : List UInt8), q + k = octN f → bs.length = q →
    ref02_Bytes_p87 (((8 * q : Nat) : Int), f, (h : Int), (l : Int), bs) = some (bs ++ (List.range' q k).map fun q => UInt8.ofNat (oct f h l q)) := by
  have h16 := octN_le f
  intro k
  induction k with
  | zero =>
    intro q bs hq _
    unfold ref02_Bytes_p87
    rw [iter_end (o := bs)]
    · simp
    · unfold ref02_Bytes_p87b
      simp only [size_eq ho, Option.bind_some]
      rw [bif_ndec (by omega)]
  | succ k ih =>
    intro q bs hq hl
    obtain ⟨X, s, h1, h2, h3⟩ := byte_bits ho (q := q) (by omega)
    have hin := inner_eq ho (i := 8 * q) bs h1 (by omega) h2 8 0 rfl
    simp only [Nat.sub_zero, Nat.pow_zero, Nat.mod_one] at hin
    have hlt := oct_lt f h l q
    have e1 : IntKind.i64.wrap (((8 * q : Nat) : Int) + 8) = ((8 * (q + 1) : Nat) : Int) := by rw [wrap_i64 (by omega) (by omega)]; omega
    have e2 : (IntKind.u8.wrap ((oct f h l q : Nat) : Int)).toNat = oct f h l q := by rw [wrap_u8 (by omega) (by omega)]; rfl
    have := ih (q + 1) (bs ++ [UInt8.ofNat (oct f h l q)]) (by omega) (by simp [hl])
    rw [List.range'_succ, List.map_cons, List.append_cons, ← this]
    unfold ref02_Bytes_p87
    refine iter_go ?_
    unfold ref02_Bytes_p87b
    simp only [size_eq ho, Option.bind_some]
    rw [bif_dec (by omega), show (0 : Int) = ((0 : Nat) : Int) from rfl, hin]
    simp only [Option.bind_some, h3, e1, e2]
    rw [fits16 (by omega) (by decide)]
    rfl
theorem ref02_Right_ok {f : Int} {h l : Nat} (ho : okA f h l) : ref02_Right (f, (h : Int), (l : Int)) = some true := by
  unfold ref02_Right
  rcases ho with ⟨rfl, rfl, hl⟩ | ⟨rfl, _⟩
  · have hl' : (l : Int) < 4294967296 := by omega
    simp only [show ((4 : Int) == 6) = false by decide, cond_false, beq_self_eq_true, cond_true, show (((0 : Nat) : Int) == 0) = true from rfl]
    rw [decide_eq_true hl']
  · simp only [beq_self_eq_true, cond_true]
/-- An address's bytes, as the document has them. -/
theorem ref02_Bytes_eq {f : Int} {h l : Nat} (ho : okA f h l) : ref02_Bytes (f, (h : Int), (l : Int)) = some (octs f h l) := by
  unfold ref02_Bytes
  simp only [ref02_Right_ok ho, Option.bind_some, Bool.not_true, cond_false]
  have := outer_eq ho (octN f) 0 [] (by omega) rfl
  simp only [Nat.mul_zero, List.nil_append] at this
  rw [show (0 : Int) = ((0 : Nat) : Int) from rfl, this]
  simp only [Option.bind_some, octs, List.range_eq_range']
/-! ### By the program -/
theorem addr_Right_ok {f : Int} {h l : Nat} (ho : okA f h l) : addr_Right (f, (h : Int), (l : Int)) = some true := by
  unfold addr_Right
  rcases ho with ⟨rfl, rfl, hl⟩ | ⟨rfl, _⟩
  · have : ishr .u64 (l : Int) 32 = 0 := by
      rw [show (32 : Int) = ((32 : Nat) : Int) from rfl, ishr_nat (by decide), Nat.div_eq_of_lt (by omega)]; rfl
    simp [this]
  · rfl
theorem addr_step {f : Int} {h l : Nat} (ho : okA f h l) {q : Nat} (hq : q < octN f) (bs : List UInt8) (hb : bs.length = q) :
    addr_Bytes_p87b (((8 * (octN f - q) : Nat) : Int) - 8, f, (h : Int), (l : Int), bs) = some (.inl (((8 * (octN f - (q + 1)) : Nat) : Int) - 8, f, (h : Int), (l : Int), bs ++ [UInt8.ofNat (oct f h l q)])) := by
  have h16 := octN_le f
  unfold addr_Bytes_p87b
  have e1 : IntKind.i64.wrap (((8 * (octN f - q) : Nat) : Int) - 8 - 8) = ((8 * (octN f - (q + 1)) : Nat) : Int) - 8 := by rw [wrap_i64 (by omega) (by omega)]; omega
  have hfit : fits (bs.length + 1) 1 = true := fits16 (by omega) (by decide)
  have e0 : ((8 * (octN f - q) : Nat) : Int) - 8 = ((8 * (octN f - (q + 1)) : Nat) : Int) := by omega
  have ht : ∀ y : Nat, (IntKind.u8.wrap ((y : Nat) : Int)).toNat = y % 256 := fun y => by rw [wrap_u8_mod]; omega
  simp only
  rw [bif_dec (by omega), hfit, e1, e0]
  simp only [cond_true]
  rcases ho with ⟨rfl, rfl, hl⟩ | ⟨rfl, hh, hl⟩
  · simp only [octN, if_true] at hq ⊢
    rw [bif_ndec (by omega), bif_dec (by omega), ishr_nat (by simp only [IntKind.bits]; omega), ht]
    simp only [oct, if_true]
    rw [show 24 - 8 * q = 8 * (4 - (q + 1)) by omega]
  · simp only [octN, show ¬ ((6 : Int) = 4) by decide, if_false] at hq ⊢
    by_cases h8 : q < 8
    · have e2 : IntKind.i64.wrap (((8 * (16 - (q + 1)) : Nat) : Int) - 64) = ((8 * (16 - (q + 1)) - 64 : Nat) : Int) := by rw [wrap_i64 (by omega) (by omega)]; omega
      rw [bif_dec (by omega), e2, bif_dec (by omega), ishr_nat (by simp only [IntKind.bits]; omega), ht]
      simp only [oct, show ¬ ((6 : Int) = 4) by decide, if_false, h8, if_true]
      rw [show 56 - 8 * q = 8 * (16 - (q + 1)) - 64 by omega]
    · rw [bif_ndec (by omega), bif_dec (by omega), ishr_nat (by simp only [IntKind.bits]; omega), ht]
      simp only [oct, show ¬ ((6 : Int) = 4) by decide, if_false, h8]
      rw [show 120 - 8 * q = 8 * (16 - (q + 1)) by omega]
theorem addr_loop {f : Int} {h l : Nat} (ho : okA f h l) : ∀ k q (bs : List UInt8), q + k = octN f → bs.length = q →
    addr_Bytes_p87 (((8 * (octN f - q) : Nat) : Int) - 8, f, (h : Int), (l : Int), bs) = some (bs ++ (List.range' q k).map fun q => UInt8.ofNat (oct f h l q)) := by
  intro k
  induction k with
  | zero =>
    intro q bs hq _
    unfold addr_Bytes_p87
    rw [iter_end (o := bs)]
    · simp
    · unfold addr_Bytes_p87b
      rw [bif_ndec (by simp only; omega)]
  | succ k ih =>
    intro q bs hq hl
    have := ih (q + 1) (bs ++ [UInt8.ofNat (oct f h l q)]) (by omega) (by simp [hl])
    rw [List.range'_succ, List.map_cons, List.append_cons, ← this]
    unfold addr_Bytes_p87
    exact iter_go (addr_step ho (by omega) bs hl)
theorem addr_Bytes_eq {f : Int} {h l : Nat} (ho : okA f h l) : addr_Bytes (f, (h : Int), (l : Int)) = some (octs f h l) := by
  unfold addr_Bytes
  simp only [addr_Right_ok ho, Option.bind_some, Bool.not_true, cond_false]
  have hb : addr_bits (f, (h : Int), (l : Int)) = some ((8 * octN f : Nat) : Int) := by
    rcases ho with ⟨rfl, _⟩ | ⟨rfl, _⟩ <;> rfl
  have h16 := octN_le f
  have := addr_loop ho (octN f) 0 [] (by omega) rfl
  simp only [Nat.sub_zero, List.nil_append] at this
  simp only [hb, Option.bind_some, wrap_i64 (show -9223372036854775808 ≤ ((8 * octN f : Nat) : Int) - 8 by omega) (by omega), this]
  simp only [octs, List.range_eq_range']
end Go.Proofs.YtipgepjmjnafiaaDoor.Jv
