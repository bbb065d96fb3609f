/- The longest row of nothings, by both; conditions: none. -/
import Derived.Test.YtipgepjmjnafiaaDoorHex
namespace Go.Proofs.YtipgepjmjnafiaaDoor.Jv
open Go
set_option linter.unusedSectionVars false
set_option linter.unusedVariables false
set_option linter.unusedSimpArgs false
def zrL : List Bool → Nat
  | true :: l => zrL l + 1
  | _ => 0
def bestZ (p : List Bool) : Nat → Nat → Int → Nat → Int × Nat
  | 0, _, f, m => (f, m)
  | k + 1, i, f, m => if zrL (p.drop i) > m then bestZ p k (i + 1) (i : Int) (zrL (p.drop i)) else bestZ p k (i + 1) f m
theorem zrL_lt : ∀ {q : List Bool} {n : Nat}, n < zrL q → q[n]? = some true
  | true :: l, 0, _ => rfl
  | true :: l, n + 1, h => by
    simp only [zrL] at h
    rw [List.getElem?_cons_succ]
    exact zrL_lt (by omega)
  | false :: l, n, h => by simp [zrL] at h
  | [], n, h => by simp [zrL] at h
theorem zrL_at : ∀ {q : List Bool}, q[zrL q]? ≠ some true
  | true :: l => by
    simp only [zrL, List.getElem?_cons_succ]
    exact zrL_at
  | false :: l => by simp [zrL]
  | [] => by simp [zrL]
theorem zrL_le : ∀ (q : List Bool), zrL q ≤ q.length
  | true :: l => by
    simp only [zrL, List.length_cons]
    have := zrL_le l
    omega
  | false :: l => by simp [zrL]
  | [] => by simp [zrL]
/-! ### By the program -/
theorem addr_zr {g : List (List UInt8)} (hg : g.length ≤ 1000) (F M : Int) {i : Nat} (hi : i ≤ 1000) : ∀ k n, n + k = zrL ((g.map (· == ([48] : List UInt8))).drop i) →
    addr_zeros_p4683 (g, F, M, (i : Int), (n : Int)) = some (g, F, M, (i : Int), ((zrL ((g.map (· == ([48] : List UInt8))).drop i) : Nat) : Int)) := by
  have hle : zrL ((g.map (· == ([48] : List UInt8))).drop i) ≤ 1000 := by
    have := zrL_le ((g.map (· == ([48] : List UInt8))).drop i)
    simp only [List.length_drop, List.length_map] at this
    omega
  have hget : ∀ n, ((g.map (· == ([48] : List UInt8))).drop i)[n]? = (g[i + n]?).map (· == ([48] : List UInt8)) := fun n => by
    rw [List.getElem?_drop, List.getElem?_map]
  intro k
  induction k with
  | zero =>
    intro n hn
    have hn' : n = zrL ((g.map (· == ([48] : List UInt8))).drop i) := by omega
    rw [← hn']
    have hz := zrL_at (q := (g.map (· == ([48] : List UInt8))).drop i)
    rw [← hn', hget] at hz
    refine iter_end ?_
    unfold addr_zeros_p4683b
    have e1 : IntKind.i64.wrap ((i : Int) + (n : Int)) = ((i + n : Nat) : Int) := by rw [wrap_i64 (by omega) (by omega)]; omega
    simp only [e1]
    by_cases hl : i + n < g.length
    · rw [bif_dec (by omega), bif_dec (by omega), Int.toNat_natCast]
      rw [List.getElem?_eq_getElem hl] at hz ⊢
      simp only [Option.map_some, ne_eq, Option.some.injEq, Bool.not_eq_true] at hz
      simp only [Option.bind_some, hz, cond_false]
    · rw [bif_ndec (by omega)]
  | succ k ih =>
    intro n hn
    rw [← ih (n + 1) (by omega)]
    have hz := zrL_lt (q := (g.map (· == ([48] : List UInt8))).drop i) (n := n) (by omega)
    rw [hget] at hz
    refine iter_go ?_
    unfold addr_zeros_p4683b
    have e1 : IntKind.i64.wrap ((i : Int) + (n : Int)) = ((i + n : Nat) : Int) := by rw [wrap_i64 (by omega) (by omega)]; omega
    have e2 : IntKind.i64.wrap ((n : Int) + 1) = ((n + 1 : Nat) : Int) := by rw [wrap_i64 (by omega) (by omega)]; omega
    simp only [e1, e2]
    by_cases hl : i + n < g.length
    · rw [bif_dec (by omega), bif_dec (by omega), Int.toNat_natCast]
      rw [List.getElem?_eq_getElem hl] at hz ⊢
      simp only [Option.map_some, Option.some.injEq] at hz
      simp only [Option.bind_some, hz, cond_true]
    · rw [List.getElem?_eq_none (by omega)] at hz
      cases hz
theorem addr_best {g : List (List UInt8)} (hg : g.length ≤ 1000) : ∀ k i (f : Int) (m : Nat), i + k = g.length →
    addr_zeros_p43 (g, f, (m : Int), (i : Int)) = some ((bestZ (g.map (· == ([48] : List UInt8))) k i f m).1, (((bestZ (g.map (· == ([48] : List UInt8))) k i f m).2 : Nat) : Int)) := by
  intro k
  induction k with
  | zero =>
    intro i f m hi
    refine iter_end ?_
    unfold addr_zeros_p43b
    rw [bif_ndec (by simp only; omega)]
    rfl
  | succ k ih =>
    intro i f m hi
    have e2 : IntKind.i64.wrap ((i : Int) + 1) = ((i + 1 : Nat) : Int) := by rw [wrap_i64 (by omega) (by omega)]; omega
    have hz := addr_zr hg f (m : Int) (i := i) (by omega) _ 0 (Nat.zero_add _)
    rw [bestZ]
    split
    · rename_i hgt
      rw [← ih (i + 1) _ _ (by omega)]
      refine iter_go ?_
      unfold addr_zeros_p43b
      rw [bif_dec (by simp only; omega)]
      simp only
      rw [show (0 : Int) = ((0 : Nat) : Int) from rfl, hz]
      simp only [Option.bind_some, e2]
      rw [bif_dec (by omega)]
    · rename_i hgt
      rw [← ih (i + 1) _ _ (by omega)]
      refine iter_go ?_
      unfold addr_zeros_p43b
      rw [bif_dec (by simp only; omega)]
      simp only
      rw [show (0 : Int) = ((0 : Nat) : Int) from rfl, hz]
      simp only [Option.bind_some, e2]
      rw [bif_ndec (by omega)]
/-! ### By the document -/
theorem ref_zr {s : List UInt8} {g : List Int} (hg : g.length ≤ 1000) (F M : Int) {i : Nat} (hi : i ≤ 1000) : ∀ k n, n + k = zrL ((g.map (· == (0 : Int))).drop i) →
    ref02_Text_p149887 (s, F, M, (i : Int), (n : Int), g) = some (s, F, M, (i : Int), ((zrL ((g.map (· == (0 : Int))).drop i) : Nat) : Int), g) := by
  have hle : zrL ((g.map (· == (0 : Int))).drop i) ≤ 1000 := by
    have := zrL_le ((g.map (· == (0 : Int))).drop i)
    simp only [List.length_drop, List.length_map] at this
    omega
  have hget : ∀ n, ((g.map (· == (0 : Int))).drop i)[n]? = (g[i + n]?).map (· == (0 : Int)) := fun n => by
    rw [List.getElem?_drop, List.getElem?_map]
  intro k
  induction k with
  | zero =>
    intro n hn
    have hn' : n = zrL ((g.map (· == (0 : Int))).drop i) := by omega
    rw [← hn']
    have hz := zrL_at (q := (g.map (· == (0 : Int))).drop i)
    rw [← hn', hget] at hz
    refine iter_end ?_
    unfold ref02_Text_p149887b
    have e1 : IntKind.i64.wrap ((i : Int) + (n : Int)) = ((i + n : Nat) : Int) := by rw [wrap_i64 (by omega) (by omega)]; omega
    simp only [e1]
    by_cases hl : i + n < g.length
    · have e3 : decide (((i + n : Nat) : Int) < (g.length : Int)) = true := decide_eq_true (by omega)
      have e4 : decide ((0 : Int) ≤ ((i + n : Nat) : Int)) = true := decide_eq_true (by omega)
      rw [List.getElem?_eq_getElem hl] at hz
      simp only [Option.map_some, ne_eq, Option.some.injEq, Bool.not_eq_true] at hz
      simp only [e3, e4, cond_true, Int.toNat_natCast, List.getElem?_eq_getElem hl, Option.bind_some, hz, cond_false]
    · rw [bif_ndec (by omega)]
  | succ k ih =>
    intro n hn
    rw [← ih (n + 1) (by omega)]
    have hz := zrL_lt (q := (g.map (· == (0 : Int))).drop i) (n := n) (by omega)
    rw [hget] at hz
    refine iter_go ?_
    unfold ref02_Text_p149887b
    have e1 : IntKind.i64.wrap ((i : Int) + (n : Int)) = ((i + n : Nat) : Int) := by rw [wrap_i64 (by omega) (by omega)]; omega
    have e2 : IntKind.i64.wrap ((n : Int) + 1) = ((n + 1 : Nat) : Int) := by rw [wrap_i64 (by omega) (by omega)]; omega
    simp only [e1, e2]
    by_cases hl : i + n < g.length
    · have e3 : decide (((i + n : Nat) : Int) < (g.length : Int)) = true := decide_eq_true (by omega)
      have e4 : decide ((0 : Int) ≤ ((i + n : Nat) : Int)) = true := decide_eq_true (by omega)
      rw [List.getElem?_eq_getElem hl] at hz
      simp only [Option.map_some, Option.some.injEq] at hz
      simp only [e3, e4, cond_true, Int.toNat_natCast, List.getElem?_eq_getElem hl, Option.bind_some, hz]
    · rw [List.getElem?_eq_none (by omega)] at hz
      cases hz
theorem ref_best {s : List UInt8} {g : List Int} (hg : g.length ≤ 1000) : ∀ k i (f : Int) (m : Nat), i + k = g.length →
    ref02_Text_p1407 (s, f, (m : Int), (i : Int), g) = some (s, (bestZ (g.map (· == (0 : Int))) k i f m).1, (((bestZ (g.map (· == (0 : Int))) k i f m).2 : Nat) : Int), g) := by
  intro k
  induction k with
  | zero =>
    intro i f m hi
    refine iter_end ?_
    unfold ref02_Text_p1407b
    rw [bif_ndec (by simp only; omega)]
    rfl
  | succ k ih =>
    intro i f m hi
    have e2 : IntKind.i64.wrap ((i : Int) + 1) = ((i + 1 : Nat) : Int) := by rw [wrap_i64 (by omega) (by omega)]; omega
    have hz := ref_zr (s := s) hg f (m : Int) (i := i) (by omega) _ 0 (Nat.zero_add _)
    rw [bestZ]
    split
    · rename_i hgt
      rw [← ih (i + 1) _ _ (by omega)]
      refine iter_go ?_
      unfold ref02_Text_p1407b
      rw [bif_dec (by simp only; omega)]
      simp only
      rw [show (0 : Int) = ((0 : Nat) : Int) from rfl, hz]
      simp only [Option.bind_some, e2]
      rw [bif_dec (by omega)]
      rfl
    · rename_i hgt
      rw [← ih (i + 1) _ _ (by omega)]
      refine iter_go ?_
      unfold ref02_Text_p1407b
      rw [bif_dec (by simp only; omega)]
      simp only
      rw [show (0 : Int) = ((0 : Nat) : Int) from rfl, hz]
      simp only [Option.bind_some, e2]
      rw [bif_ndec (by omega)]
/-- The program begins with none of length 0, the document with one of length 1 that is nowhere. -/
def agreeZ (A R : Int × Nat) : Bool := if A.2 < 2 then R == (-1, 1) else R == A && decide (0 ≤ A.1) && decide (A.1.toNat + A.2 ≤ 8) && decide (2 ≤ A.2)
theorem best_agree : ∀ a b c d e f g h : Bool, agreeZ (bestZ [a, b, c, d, e, f, g, h] 8 0 0 0) (bestZ [a, b, c, d, e, f, g, h] 8 0 (-1) 1) = true := by decide +kernel
end Go.Proofs.YtipgepjmjnafiaaDoor.Jv
