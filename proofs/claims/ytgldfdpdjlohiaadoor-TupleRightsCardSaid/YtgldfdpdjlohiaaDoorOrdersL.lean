/- TupleOrders: the law, plainly: orders by numbers, one behind the other; conditions: none. -/
import Derived.Test.YtgldfdpdjlohiaaDoorOrdersF
namespace Go.Proofs.YtgldfdpdjlohiaaDoor.Iv
open Go
def cmpI (a b : Int) : Int := if a < b then -1 else if a > b then 1 else 0
def orC (x y : Int) : Int := if x ≠ 0 then x else y
def lexL : List Int → List Int → Int
  | a :: l, b :: r => orC (cmpI a b) (lexL l r)
  | _, _ => 0
def eqL : List Int → List Int → Bool
  | a :: l, b :: r => a == b && eqL l r
  | _, _ => true
theorem orC_assoc (x y z : Int) : orC (orC x y) z = orC x (orC y z) := by
  unfold orC
  by_cases h : x = 0
  · subst h; simp
  · simp [h]
theorem orC_zero (x : Int) : orC x 0 = x := by
  unfold orC
  by_cases h : x = 0
  · subst h; simp
  · simp [h]
theorem orC_some (a y : Int) : (bif a != 0 then some a else some y) = some (orC a y) := by
  unfold orC
  by_cases h : a = 0
  · subst h; rfl
  · have : (a != 0) = true := by simpa using h
    rw [this, if_pos h]
    rfl
theorem F44_eq (a : Int) : F44 a = some false := by simp [F44]
theorem F53_eq (a : Int) : F53 a = some false := by simp [F53]
theorem F35_eq (a b : Int) : F35 a b = some (cmpI a b) := by
  simp only [F35, F44_eq, Option.bind_some, cond_false, cmpI]
  by_cases h : a < b
  · simp [h]
  · by_cases h2 : a > b <;> simp [h, h2]
theorem F45_eq (a b : Int) : F45 a b = some (cmpI a b) := by
  simp only [F45, F53_eq, Option.bind_some, cond_false, cmpI]
  by_cases h : a < b
  · simp [h]
  · by_cases h2 : a > b <;> simp [h, h2]
theorem F34_3_eq (a b c : Int) : F34_3 a b c = some (orC a (orC b c)) := by
  unfold F34_3
  simp only [orC_some, orC_zero]
theorem F34_6_eq (a b c d e f : Int) : F34_6 a b c d e f = some (orC a (orC b (orC c (orC d (orC e f))))) := by
  unfold F34_6
  simp only [orC_some, orC_zero]
theorem F36_eq (a b c d e f : Int) : F36 a b c d e f = some (orC (cmpI a d) (orC (cmpI b e) (cmpI c f))) := by
  simp only [F36, F35_eq, F45_eq, F34_3_eq, Option.bind_some]
theorem cmpI_self (a : Int) : cmpI a a = 0 := by simp [cmpI]
theorem lexL_self (l : List Int) : lexL l l = 0 := by
  induction l with
  | nil => rfl
  | cons a l ih => simp [lexL, cmpI_self, orC, ih]
theorem eqL_eq : ∀ {l r : List Int}, l.length = r.length → eqL l r = true → l = r
  | [], [], _, _ => rfl
  | a :: l, b :: r, h, he => by
    simp only [eqL, Bool.and_eq_true, beq_iff_eq] at he
    rw [he.1, eqL_eq (by simpa using h) he.2]
  | [], _ :: _, h, _ => by simp at h
  | _ :: _, [], h, _ => by simp at h
theorem eqL_self (l : List Int) : eqL l l = true := by
  induction l with
  | nil => rfl
  | cons a l ih => simp [eqL, ih]
theorem F22_eq (a0 a1 a2 a3 a4 a5 a6 a7 a8 a9 b0 b1 b2 b3 b4 b5 b6 b7 b8 b9 : Int) : F22 a0 a1 a2 a3 a4 a5 a6 a7 a8 a9 b0 b1 b2 b3 b4 b5 b6 b7 b8 b9 = some (lexL [a0, a1, a2, a3, a4, a5, a6, a7, a8, a9] [b0, b1, b2, b3, b4, b5, b6, b7, b8, b9]) := by
  unfold F22
  have he : (a0 == b0 && (a1 == b1 && (a2 == b2 && (a3 == b3 && (a4 == b4 && (a5 == b5 && (a6 == b6 && (a7 == b7 && (a8 == b8 && (a9 == b9 && true)))))))))) = eqL [a0, a1, a2, a3, a4, a5, a6, a7, a8, a9] [b0, b1, b2, b3, b4, b5, b6, b7, b8, b9] := rfl
  rw [he]
  cases h : eqL [a0, a1, a2, a3, a4, a5, a6, a7, a8, a9] [b0, b1, b2, b3, b4, b5, b6, b7, b8, b9] with
  | true =>
    have := eqL_eq (l := [a0, a1, a2, a3, a4, a5, a6, a7, a8, a9]) (r := [b0, b1, b2, b3, b4, b5, b6, b7, b8, b9]) rfl h
    rw [this, lexL_self]
    rfl
  | false =>
    simp only [cond_false, F35_eq, F36_eq, F34_6_eq, Option.bind_some, lexL, orC_zero, orC_assoc]
theorem cmpI_range (a b : Int) : cmpI a b = -1 ∨ cmpI a b = 0 ∨ cmpI a b = 1 := by
  unfold cmpI
  by_cases h : a < b
  · simp [h]
  · by_cases h2 : a > b <;> simp [h, h2]
theorem lexL_range : ∀ (l r : List Int), lexL l r = -1 ∨ lexL l r = 0 ∨ lexL l r = 1
  | [], _ => by simp [lexL]
  | _ :: _, [] => by simp [lexL]
  | a :: l, b :: r => by
    simp only [lexL, orC]
    split
    · exact cmpI_range a b
    · exact lexL_range l r
theorem cmpI_neg (a b : Int) : cmpI b a = -cmpI a b := by
  unfold cmpI
  by_cases h : a < b
  · have : ¬ b < a := by omega
    simp [h, this]
  · by_cases h2 : b < a
    · simp [h, h2]
    · simp [h, h2]
theorem lexL_neg : ∀ (l r : List Int), lexL r l = -lexL l r
  | [], [] => rfl
  | [], _ :: _ => rfl
  | _ :: _, [] => rfl
  | a :: l, b :: r => by
    simp only [lexL, orC]
    rw [cmpI_neg a b, lexL_neg l r]
    by_cases h : cmpI a b = 0 <;> simp [h]
theorem cmpI_zero {a b : Int} (h : cmpI a b = 0) : a = b := by
  unfold cmpI at h
  split at h
  · cases h
  · split at h
    · cases h
    · omega
theorem lexL_zero : ∀ {l r : List Int}, l.length = r.length → lexL l r = 0 → l = r
  | [], [], _, _ => rfl
  | a :: l, b :: r, hl, h => by
    simp only [lexL, orC] at h
    split at h
    · contradiction
    · rename_i h0
      have h1 : a = b := cmpI_zero (by simpa using h0)
      have h2 : l = r := lexL_zero (by simpa using hl) h
      rw [h1, h2]
  | [], _ :: _, hl, _ => by simp at hl
  | _ :: _, [], hl, _ => by simp at hl
theorem cmpI_le {a b : Int} (h : cmpI a b ≤ 0) : a ≤ b := by
  unfold cmpI at h
  split at h
  · omega
  · split at h <;> omega
theorem cmpI_lt {a b : Int} (h : a < b) : cmpI a b = -1 := by simp [cmpI, h]
theorem lexL_trans : ∀ {l r s : List Int}, l.length = r.length → r.length = s.length → lexL l r ≤ 0 → lexL r s ≤ 0 → lexL l s ≤ 0
  | [], _, _, _, _, _, _ => by simp [lexL]
  | a :: l, b :: r, c :: s, h1, h2, h3, h4 => by
    simp only [lexL, orC] at h3 h4 ⊢
    by_cases hab : cmpI a b = 0
    · have e := cmpI_zero hab
      subst e
      by_cases hbc : cmpI a c = 0
      · rw [if_neg (by simpa using hab)] at h3
        rw [if_neg (by simpa using hbc)] at h4 ⊢
        exact lexL_trans (by simpa using h1) (by simpa using h2) h3 h4
      · rw [if_pos hbc] at h4 ⊢
        exact h4
    · rw [if_pos hab] at h3
      have hlt : a < b := by
        have := cmpI_le h3
        rcases Int.lt_or_eq_of_le this with h | h
        · exact h
        · subst h; exact absurd (cmpI_self a) hab
      have hle : b ≤ c := by
        by_cases hbc : cmpI b c = 0
        · rw [cmpI_zero hbc]; exact Int.le_refl _
        · rw [if_pos hbc] at h4; exact cmpI_le h4
      have : cmpI a c = -1 := cmpI_lt (by omega)
      rw [this]
      simp
  | _ :: _, [], _, h1, _, _, _ => by simp at h1
  | _ :: _, _ :: _, [], _, h2, _, _ => by simp at h2
theorem F8_true (a0 a1 a2 a3 a4 a5 a6 a7 a8 a9 b0 b1 b2 b3 b4 b5 b6 b7 b8 b9 c0 c1 c2 c3 c4 c5 c6 c7 c8 c9 : Int) :
    F8 a0 a1 a2 a3 a4 a5 a6 a7 a8 a9 b0 b1 b2 b3 b4 b5 b6 b7 b8 b9 c0 c1 c2 c3 c4 c5 c6 c7 c8 c9 = some true := by
  unfold F8
  simp only [F22_eq, Option.bind_some, F11]
  have he : (a0 == b0 && (a1 == b1 && (a2 == b2 && (a3 == b3 && (a4 == b4 && (a5 == b5 && (a6 == b6 && (a7 == b7 && (a8 == b8 && (a9 == b9 && true)))))))))) = eqL [a0, a1, a2, a3, a4, a5, a6, a7, a8, a9] [b0, b1, b2, b3, b4, b5, b6, b7, b8, b9] := rfl
  rw [he]
  have e1 : [a0, a1, a2, a3, a4, a5, a6, a7, a8, a9].length = [b0, b1, b2, b3, b4, b5, b6, b7, b8, b9].length := rfl
  have e2 : [b0, b1, b2, b3, b4, b5, b6, b7, b8, b9].length = [c0, c1, c2, c3, c4, c5, c6, c7, c8, c9].length := rfl
  generalize [a0, a1, a2, a3, a4, a5, a6, a7, a8, a9] = A at *
  generalize [b0, b1, b2, b3, b4, b5, b6, b7, b8, b9] = B at *
  generalize [c0, c1, c2, c3, c4, c5, c6, c7, c8, c9] = C at *
  have h1 : (lexL B A == IntKind.i64.wrap (0 - lexL A B)) = true := by
    rw [lexL_neg A B]
    rcases lexL_range A B with h | h | h <;> rw [h] <;> decide +kernel
  have h2 : ((lexL A B == 0) == eqL A B) = true := by
    cases h : eqL A B with
    | true => rw [eqL_eq e1 h, lexL_self]; rfl
    | false =>
      have : (lexL A B == 0) = false := by
        cases h3 : lexL A B == 0 with
        | false => rfl
        | true =>
          have := lexL_zero e1 (by simpa using h3)
          rw [this, eqL_self] at h
          cases h
      rw [this]; rfl
  rw [h1, h2]
  simp only [cond_true]
  by_cases h3 : lexL A B > 0
  · simp [h3]
  · by_cases h4 : lexL B C > 0
    · simp [h3, h4]
    · have := lexL_trans e1 e2 (by omega) (by omega)
      simp [h3, h4, this]
end Go.Proofs.YtgldfdpdjlohiaaDoor.Iv
