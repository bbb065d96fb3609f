/- An address of bytes, by both; conditions: none. -/
import Derived.Test.YtfaofikhabccoaaGreatDoorLines20
namespace Go.Proofs.YtfaofikhabccoaaGreatDoor.Jv.A
open Go
set_option linter.unusedSectionVars false
set_option linter.unusedVariables false
set_option linter.unusedSimpArgs false
theorem fits16 {n b : Nat} (hn : n ≤ 17) (hb : b ≤ 64) : fits n b = true := by
  unfold fits
  have : n * (b + 1) ≤ 17 * 65 := Nat.mul_le_mul hn (by omega)
  exact decide_eq_true (Nat.lt_of_le_of_lt this (by decide))
/-- A number out of bytes. -/
def val : Nat → List UInt8 → Nat
  | a, [] => a
  | a, b :: r => val (256 * a + b.toNat) r
theorem val_app (l m : List UInt8) : ∀ a, val a (l ++ m) = val (val a l) m := by
  induction l with
  | nil => intro a; rfl
  | cons b l ih => intro a; exact ih _
theorem val_eq (l : List UInt8) : ∀ a, val a l = a * 256 ^ l.length + val 0 l := by
  induction l with
  | nil => intro a; simp [val]
  | cons b l ih =>
    intro a
    rw [val, val, ih, ih (256 * 0 + b.toNat), List.length_cons, Nat.pow_succ]
    simp only [Nat.mul_zero, Nat.zero_add, Nat.add_mul]
    have : 256 * a * 256 ^ l.length = a * (256 ^ l.length * 256) := by rw [Nat.mul_comm 256 a, Nat.mul_assoc, Nat.mul_comm 256]
    omega
theorem val_lt (l : List UInt8) : val 0 l < 256 ^ l.length := by
  induction l with
  | nil => decide
  | cons b l ih =>
    have hb : b.toNat < 256 := b.toNat_lt
    rw [val, val_eq, List.length_cons, Nat.pow_succ]
    have : (256 * 0 + b.toNat) * 256 ^ l.length ≤ 255 * 256 ^ l.length := Nat.mul_le_mul_right _ (by omega)
    omega
/-- .. in a word of 64 bits. -/
theorem stp {a : Nat} (ha : a < 18446744073709551616) (b : UInt8) : ior .u64 (ishl .u64 (a : Int) 8) (IntKind.u64.wrap ((b.toNat : Nat) : Int)) = (((256 * a + b.toNat) % 18446744073709551616 : Nat) : Int) := by
  have hb : b.toNat < 256 := b.toNat_lt
  have e : ishl .u64 (a : Int) 8 = ((2 ^ 8 * (a % 72057594037927936) : Nat) : Int) := by
    unfold ishl
    simp only [IntKind.wrap, IntKind.signed, IntKind.bits]
    simp
    omega
  rw [e, wrap_u64 (by omega) (by omega), ior_u64 (n := 8) (by omega) (by omega)]
  omega
theorem val_mod (l : List UInt8) : ∀ a, val (a % 18446744073709551616) l % 18446744073709551616 = val a l % 18446744073709551616 := by
  induction l with
  | nil => intro a; simp [val]
  | cons b l ih =>
    intro a
    rw [val, val, ← ih (256 * (a % 18446744073709551616) + b.toNat), ← ih (256 * a + b.toNat)]
    congr 2
    omega
/-- What bytes are as an address. -/
def fromA (b : List UInt8) : (Int × Int × Int) × Int :=
  if b.length = 4 then ((4, 0, ((val 0 b : Nat) : Int)), 0) else if b.length = 16 then ((6, ((val 0 (b.take 8) : Nat) : Int), ((val 0 (b.drop 8) : Nat) : Int)), 0) else ((0, 0, 0), 1)
/-! ### The program's -/
theorem addr_lo (b : List UInt8) (hb : b.length ≤ 16) (r0 r1 r2 f : Int) (hi : Nat) : ∀ k i (lo : Nat), i + k = b.length → b.length ≤ 8 + i → lo < 18446744073709551616 →
    addr_From_p87 (b, b, (b.length : Int), (i : Int), r0, r1, r2, f, (hi : Int), (lo : Int)) = some (r0, r1, r2, f, (hi : Int), ((val lo (b.drop i) % 18446744073709551616 : Nat) : Int)) := by
  intro k
  induction k with
  | zero =>
    intro i lo h1 h2 h3
    unfold addr_From_p87
    refine iter_end ?_
    unfold addr_From_p87b
    rw [bif_ndec (by simp only; omega), List.drop_eq_nil_of_le (by omega), val, Nat.mod_eq_of_lt h3]
  | succ k ih =>
    intro i lo h1 h2 h3
    have hi : i < b.length := by omega
    have e1 : IntKind.i64.wrap ((i : Int) + 1) = ((i + 1 : Nat) : Int) := by rw [wrap_i64 (by omega) (by omega)]; omega
    have := ih (i + 1) ((256 * lo + (b[i]).toNat) % 18446744073709551616) (by omega) (by omega) (Nat.mod_lt _ (by decide))
    rw [val_mod] at this
    rw [List.drop_eq_getElem_cons hi, val, ← this]
    unfold addr_From_p87
    refine iter_go ?_
    unfold addr_From_p87b
    simp only
    rw [bif_dec (by omega), bif_dec (by omega), Int.toNat_natCast, List.getElem?_eq_getElem hi]
    simp only [Option.bind_some]
    rw [wrap_i64 (x := (b.length : Int) - 8) (by omega) (by omega), bif_ndec (by omega), stp h3, e1]
theorem addr_hi (b : List UInt8) (hb : b.length = 16) (r0 r1 r2 f : Int) : ∀ (k i hi : Nat), i + k = 8 → hi < 18446744073709551616 →
    addr_From_p87 (b, b, (b.length : Int), (i : Int), r0, r1, r2, f, (hi : Int), 0) = some (r0, r1, r2, f, ((val hi ((b.drop i).take k) % 18446744073709551616 : Nat) : Int), ((val 0 (b.drop 8) % 18446744073709551616 : Nat) : Int)) := by
  intro k
  induction k with
  | zero =>
    intro i hi h1 h3
    have : i = 8 := by omega
    subst this
    have := addr_lo b (by omega) r0 r1 r2 f hi 8 8 0 (by omega) (by omega) (by decide)
    simp only [List.take_zero, val, Nat.mod_eq_of_lt h3]
    exact this
  | succ k ih =>
    intro i hi h1 h3
    have hl : i < b.length := by omega
    have e1 : IntKind.i64.wrap ((i : Int) + 1) = ((i + 1 : Nat) : Int) := by rw [wrap_i64 (by omega) (by omega)]; omega
    have := ih (i + 1) ((256 * hi + (b[i]).toNat) % 18446744073709551616) (by omega) (Nat.mod_lt _ (by decide))
    rw [val_mod] at this
    rw [List.drop_eq_getElem_cons hl, List.take_succ_cons, val, ← this]
    unfold addr_From_p87
    refine iter_go ?_
    unfold addr_From_p87b
    simp only
    rw [bif_dec (by omega), bif_dec (by omega), Int.toNat_natCast, List.getElem?_eq_getElem hl]
    simp only [Option.bind_some]
    rw [wrap_i64 (x := (b.length : Int) - 8) (by omega) (by omega), bif_dec (by omega), stp h3, e1]
theorem val8 {l : List UInt8} (h : l.length ≤ 8) : val 0 l % 18446744073709551616 = val 0 l :=
  Nat.mod_eq_of_lt (Nat.lt_of_lt_of_le (val_lt l) (show 256 ^ l.length ≤ 256 ^ 8 from Nat.pow_le_pow_right (by decide) h))
theorem addr_From_eq (b : List UInt8) : addr_From b = some (fromA b) := by
  unfold addr_From addr_From_p11 fromA
  simp only
  by_cases h4 : b.length = 4
  · have e4 : ((b.length : Int) == 4) = true := by rw [h4]; rfl
    have := addr_lo b (by omega) 0 0 0 4 0 4 0 0 (by omega) (by omega) (by decide)
    simp only [List.drop_zero, val8 (l := b) (by omega)] at this
    simp only [e4, cond_true, Option.bind_some, Sum.elim_inl, if_pos h4]
    have h2 : addr_From_p87 (b, b, (b.length : Int), 0, 0, 0, 0, 4, 0, 0) = some (0, 0, 0, 4, 0, ((val 0 b : Nat) : Int)) := this
    rw [h2]
    rfl
  · have e4 : ((b.length : Int) == 4) = false := by
      have : ¬ (b.length : Int) = 4 := by omega
      simpa using this
    simp only [e4, cond_false, if_neg h4]
    by_cases h16 : b.length = 16
    · have e16 : ((b.length : Int) == 16) = true := by rw [h16]; rfl
      have := addr_hi b h16 0 0 0 6 8 0 0 (by omega) (by decide)
      simp only [List.drop_zero, val8 (l := b.take 8) (by simp; omega), val8 (l := b.drop 8) (by simp; omega)] at this
      simp only [e16, cond_true, Option.bind_some, Sum.elim_inl, if_pos h16]
      have h2 : addr_From_p87 (b, b, (b.length : Int), 0, 0, 0, 0, 6, 0, 0) = some (0, 0, 0, 6, ((val 0 (b.take 8) : Nat) : Int), ((val 0 (b.drop 8) : Nat) : Int)) := this
      rw [h2]
      rfl
    · have e16 : ((b.length : Int) == 16) = false := by
        have : ¬ (b.length : Int) = 16 := by omega
        simpa using this
      simp only [e16, cond_false, Option.bind_some, Sum.elim_inr, if_neg h16]
/-! ### The document's -/
theorem ref_loop (b : List UInt8) (hb : b.length ≤ 16) (r0 r1 r2 f : Int) : ∀ k i (V : Nat), i + k = b.length →
    ref02_From_p175 (b, (i : Int), r0, r1, r2, f, ((V / 18446744073709551616 % 18446744073709551616 : Nat) : Int), ((V % 18446744073709551616 : Nat) : Int)) =
      some (r0, r1, r2, f, ((val V (b.drop i) / 18446744073709551616 % 18446744073709551616 : Nat) : Int), ((val V (b.drop i) % 18446744073709551616 : Nat) : Int)) := by
  intro k
  induction k with
  | zero =>
    intro i V h1
    unfold ref02_From_p175
    refine iter_end ?_
    unfold ref02_From_p175b
    rw [bif_ndec (by simp only; omega), List.drop_eq_nil_of_le (by omega), val]
  | succ k ih =>
    intro i V h1
    have hi : i < b.length := by omega
    have e1 : IntKind.i64.wrap ((i : Int) + 1) = ((i + 1 : Nat) : Int) := by rw [wrap_i64 (by omega) (by omega)]; omega
    have := ih (i + 1) (256 * V + (b[i]).toNat) (by omega)
    have hb' : (b[i]).toNat < 256 := (b[i]).toNat_lt
    rw [List.drop_eq_getElem_cons hi, val, ← this]
    unfold ref02_From_p175
    refine iter_go ?_
    unfold ref02_From_p175b
    simp only
    have e2 : ior .u64 (ishl .u64 ((V / 18446744073709551616 % 18446744073709551616 : Nat) : Int) 8) (ishr .u64 ((V % 18446744073709551616 : Nat) : Int) 56) = (((256 * V + (b[i]).toNat) / 18446744073709551616 % 18446744073709551616 : Nat) : Int) := by
      have e3 : ishr .u64 ((V % 18446744073709551616 : Nat) : Int) 56 = ((V % 18446744073709551616 / 2 ^ 56 : Nat) : Int) := ishr_nat (n := 56) (by decide)
      have e4 : ishl .u64 ((V / 18446744073709551616 % 18446744073709551616 : Nat) : Int) 8 = ((2 ^ 8 * (V / 18446744073709551616 % 72057594037927936) : Nat) : Int) := by
        unfold ishl
        simp only [IntKind.wrap, IntKind.signed, IntKind.bits]
        simp
        omega
      rw [e3, e4, ior_u64 (n := 8) (by omega) (by omega)]
      omega
    rw [bif_dec (by omega), bif_dec (by omega), Int.toNat_natCast, List.getElem?_eq_getElem hi]
    simp only [Option.bind_some]
    rw [e2, stp (Nat.mod_lt _ (by decide)), e1]
    have e5 : (256 * (V % 18446744073709551616) + (b[i]).toNat) % 18446744073709551616 = (256 * V + (b[i]).toNat) % 18446744073709551616 := by omega
    rw [e5]
theorem ref02_From_eq (b : List UInt8) : ref02_From b = some (fromA b) := by
  unfold ref02_From ref02_From_p5 ref02_From_p23 fromA
  simp only
  by_cases h4 : b.length = 4
  · have e4 : ((b.length : Int) == 4) = true := by rw [h4]; rfl
    have n4 : ((b.length : Int) != 4) = false := by rw [bne, e4]; rfl
    have := ref_loop b (by omega) 0 0 0 4 4 0 0 (by omega)
    simp only [List.drop_zero, val8 (l := b) (by omega)] at this
    simp only [n4, e4, cond_true, cond_false, Option.bind_some, Sum.elim_inl, if_pos h4]
    have h2 : ref02_From_p175 (b, 0, 0, 0, 0, 4, 0, 0) = some (0, 0, 0, 4, ((val 0 b / 18446744073709551616 % 18446744073709551616 : Nat) : Int), ((val 0 b : Nat) : Int)) := this
    rw [h2]
    rfl
  · have e4 : ((b.length : Int) == 4) = false := by
      have : ¬ (b.length : Int) = 4 := by omega
      simpa using this
    have n4 : ((b.length : Int) != 4) = true := by rw [bne, e4]; rfl
    simp only [n4, e4, cond_true, cond_false, if_neg h4]
    by_cases h16 : b.length = 16
    · have e16 : ((b.length : Int) == 16) = true := by rw [h16]; rfl
      have n16 : ((b.length : Int) != 16) = false := by rw [bne, e16]; rfl
      have := ref_loop b (by omega) 0 0 0 6 16 0 0 (by omega)
      have h2 : ref02_From_p175 (b, 0, 0, 0, 0, 6, 0, 0) = some (0, 0, 0, 6, ((val 0 (b.drop 0) / 18446744073709551616 % 18446744073709551616 : Nat) : Int), ((val 0 (b.drop 0) % 18446744073709551616 : Nat) : Int)) := this
      have hv : val 0 b = val 0 (b.take 8) * 18446744073709551616 + val 0 (b.drop 8) := by
        have h3 : (b.drop 8).length = 8 := by simp; omega
        have := val_app (b.take 8) (b.drop 8) 0
        rw [List.take_append_drop, val_eq (b.drop 8), h3] at this
        exact this
      have h5 : val 0 (b.take 8) < 18446744073709551616 := Nat.lt_of_lt_of_le (val_lt _) (show 256 ^ (b.take 8).length ≤ 256 ^ 8 from Nat.pow_le_pow_right (by decide) (by simp; omega))
      have h6 : val 0 (b.drop 8) < 18446744073709551616 := Nat.lt_of_lt_of_le (val_lt _) (show 256 ^ (b.drop 8).length ≤ 256 ^ 8 from Nat.pow_le_pow_right (by decide) (by simp; omega))
      rw [List.drop_zero, hv] at h2
      have h7 : (val 0 (b.take 8) * 18446744073709551616 + val 0 (b.drop 8)) / 18446744073709551616 % 18446744073709551616 = val 0 (b.take 8) := by omega
      have h8 : (val 0 (b.take 8) * 18446744073709551616 + val 0 (b.drop 8)) % 18446744073709551616 = val 0 (b.drop 8) := by omega
      rw [h7, h8] at h2
      simp only [n16, e4, cond_false, Option.bind_some, Sum.elim_inl, if_pos h16, h2]
      rfl
    · have e16 : ((b.length : Int) == 16) = false := by
        have : ¬ (b.length : Int) = 16 := by omega
        simpa using this
      have n16 : ((b.length : Int) != 16) = true := by rw [bne, e16]; rfl
      simp only [n16, cond_true, Option.bind_some, Sum.elim_inr, if_neg h16]
end Go.Proofs.YtfaofikhabccoaaGreatDoor.Jv.A
