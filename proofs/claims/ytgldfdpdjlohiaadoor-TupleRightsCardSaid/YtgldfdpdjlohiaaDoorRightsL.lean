/- TupleRights: the law, plainly; conditions: none. -/
import Derived.Test.YtgldfdpdjlohiaaDoorBackL
import Derived.Test.YtgldfdpdjlohiaaDoorRightsF
namespace Go.Proofs.YtgldfdpdjlohiaaDoor.Iv
open Go
theorem F30_eq {a b c : Int} (hc : 0 ≤ c) : F30 a b c = some (B24 a b c) := by
  have e : (c.fdiv (2 ^ min (Int.toNat 32) IntKind.u64.bits) == 0) = decide (c < 4294967296) := by
    have h1 : ((2 : Int) ^ min (Int.toNat 32) IntKind.u64.bits) = 4294967296 := by decide +kernel
    rw [h1, Int.fdiv_eq_ediv_of_nonneg _ (by decide)]
    by_cases h : c < 4294967296
    · have : c / 4294967296 = 0 := by omega
      rw [this]; simp [h]
    · have : c / 4294967296 ≠ 0 := by omega
      simp [h, this]
  unfold B24 F24 F30
  rw [e]
  by_cases h4 : a = 4
  · subst h4
    cases (b == 0) <;> rfl
  · by_cases h6 : a = 6
    · subst h6; rfl
    · have h4' : (a == 4) = false := by simpa using h4
      have h6' : (a == 6) = false := by simpa using h6
      rw [h4', h6']; rfl
theorem B24_other {a : Int} (b c : Int) (h4 : (a == 4) = false) (h6 : (a == 6) = false) : B24 a b c = false := by
  unfold B24 F24
  rw [h4, h6]
  rfl
def E32 (a sf sh sl df dh dl : Int) : Bool := (a == 4 || a == 6) && ((sf == a) && ((df == a) && (B24 sf sh sl && B24 df dh dl)))
theorem F32_eq {a sf sh sl df dh dl : Int} (h1 : 0 ≤ sl) (h2 : 0 ≤ dl) : F32 a sf sh sl df dh dl = some (E32 a sf sh sl df dh dl) := by
  unfold F32 E32
  simp only [F30_eq h1, F30_eq h2, Option.bind_some]
  cases (a == 4) <;> cases (a == 6) <;> cases (sf == a) <;> cases (df == a) <;> cases B24 sf sh sl <;> cases B24 df dh dl <;> rfl
theorem W25_eq (a b : Int) : W25 a b = (b == 6 || (b == 17 || ((b == 1 && a == 4) || (b == 58 && a == 6)))) := by
  unfold W25 S25 F25
  cases (b == 6) <;> cases (b == 17) <;> cases (b == 1) <;> cases (a == 4) <;> cases (b == 58) <;> cases (a == 6) <;> rfl
theorem F33_eq (a : Int) : F33 a = some (bif a == 4 then 1 else 58) := by
  unfold F33
  cases (a == 4) <;> rfl
def P2 (p q : Int) : Bool := B26 p && B26 q
theorem F20_eq {a b sf sh sl df dh dl p q : Int} (h1 : 0 ≤ sl) (h2 : 0 ≤ dl) : F20 a b sf sh sl df dh dl p q = some (E32 a sf sh sl df dh dl && ((b == 6 || (b == 17 || b == (bif a == 4 then 1 else 58))) && (B26 p && B26 q))) := by
  unfold F20
  simp only [F32_eq h1 h2, F33_eq, Option.bind_some]
  unfold B26 F26
  generalize E32 a sf sh sl df dh dl = e
  generalize (b == (bif a == 4 then 1 else 58)) = x3
  generalize (b == 6) = x1
  generalize (b == 17) = x2
  generalize decide (p ≥ 0) = y1
  generalize decide (p ≤ 65535) = y2
  generalize decide (q ≥ 0) = y3
  generalize decide (q ≤ 65535) = y4
  cases e <;> cases x1 <;> cases x2 <;> cases x3 <;> cases y1 <;> cases y2 <;> cases y3 <;> cases y4 <;> rfl
theorem rights {a b sf sh sl df dh dl p q : Int} (h1 : 0 ≤ sl) (h2 : 0 ≤ dl) : F20 a b sf sh sl df dh dl p q = F10 a b sf sh sl df dh dl p q := by
  rw [F20_eq h1 h2, F10_eq, W25_eq]
  congr 1
  unfold E32
  cases h4 : (a == 4) with
  | true =>
    have e4 : a = 4 := by simpa using h4
    have h6 : (a == 6) = false := by rw [e4]; rfl
    rw [h6]
    simp only [cond_true]
    cases (b == 6) <;> cases (b == 17) <;> cases (b == 1) <;> cases (b == 58) <;> cases (sf == a) <;> cases (df == a) <;> cases B24 sf sh sl <;> cases B24 df dh dl <;> cases (B26 p && B26 q) <;> rfl
  | false =>
    cases h6 : (a == 6) with
    | true =>
      simp only [cond_false]
      cases (b == 6) <;> cases (b == 17) <;> cases (b == 1) <;> cases (b == 58) <;> cases (sf == a) <;> cases (df == a) <;> cases B24 sf sh sl <;> cases B24 df dh dl <;> cases (B26 p && B26 q) <;> rfl
    | false =>
      cases hs : (sf == a) with
      | false => rfl
      | true =>
        have es : sf = a := by simpa using hs
        rw [es, B24_other sh sl h4 h6]
        cases (df == a) <;> rfl
theorem F37_eq (a b : Int) : F37 a b = some (cmpI a b) := by
  unfold F37 cmpI
  by_cases h : a < b
  · simp [h]
  · by_cases h2 : a > b <;> simp [h, h2]
theorem F38_eq (a b c d e f : Int) : F38 a b c d e f = some (orC (cmpI a d) (orC (cmpI b e) (cmpI c f))) := by
  unfold F38 cmpI orC
  by_cases h1 : a < d
  · simp [h1]
  · by_cases h2 : a > d
    · simp [h1, h2]
    · by_cases h3 : b < e
      · simp [h1, h2, h3]
      · by_cases h4 : b > e
        · simp [h1, h2, h3, h4]
        · by_cases h5 : c < f
          · simp [h1, h2, h3, h4, h5]
          · by_cases h6 : c > f <;> simp [h1, h2, h3, h4, h5, h6]
theorem F23_eq (a0 a1 a2 a3 a4 a5 a6 a7 a8 a9 b0 b1 b2 b3 b4 b5 b6 b7 b8 b9 : Int) : F23 a0 a1 a2 a3 a4 a5 a6 a7 a8 a9 b0 b1 b2 b3 b4 b5 b6 b7 b8 b9 = some (lexL [a0, a1, a2, a3, a4, a5, a6, a7, a8, a9] [b0, b1, b2, b3, b4, b5, b6, b7, b8, b9]) := by
  unfold F23
  simp only [F37_eq, F38_eq, Option.bind_some, orC_some, lexL, orC_zero, orC_assoc]
theorem F7_true {a0 a1 a2 a3 a4 a5 a6 a7 a8 a9 b0 b1 b2 b3 b4 b5 b6 b7 b8 b9 : Int} (h1 : 0 ≤ a4) (h2 : 0 ≤ a7) : F7 a0 a1 a2 a3 a4 a5 a6 a7 a8 a9 b0 b1 b2 b3 b4 b5 b6 b7 b8 b9 = some true := by
  unfold F7
  rw [rights h1 h2, F10_eq]
  simp only [Option.bind_some, beq_self_eq_true, cond_true, F9, F21, Bool.and_self, F22_eq, F23_eq, F11]
end Go.Proofs.YtgldfdpdjlohiaaDoor.Iv
