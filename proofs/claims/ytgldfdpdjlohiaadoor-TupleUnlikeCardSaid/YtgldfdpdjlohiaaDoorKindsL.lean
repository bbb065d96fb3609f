/- Which addresses are of many, and which of the host itself; conditions: none. -/
import Derived.Test.YtgldfdpdjlohiaaDoorAddrB
namespace Go.Proofs.YtgldfdpdjlohiaaDoor.Jv
open Go
set_option linter.unusedSectionVars false
set_option linter.unusedVariables false
set_option linter.unusedSimpArgs false
theorem beq_nat (a b : Nat) : (((a : Int)) == (b : Int)) = decide (a = b) := by
  by_cases h : a = b
  · subst h; simp
  · rw [decide_eq_false h, beq_eq_false_iff_ne]; omega
theorem bif_or {a b : Bool} : (bif a then some true else some b) = some (a || b) := by cases a <;> rfl
theorem bif_and {a b : Bool} : (bif a then some b else some false) = some (a && b) := by cases a <;> rfl
theorem shr_is {x n m : Nat} (hn : n ≤ 64) : (ishr .u64 (x : Int) ((n : Nat) : Int) == ((m : Nat) : Int)) = decide (x / 2 ^ n = m) := by
  rw [ishr_nat (k := .u64) hn, beq_nat]
theorem right_cases {f : Int} {h l : Nat} (hh : h < 18446744073709551616) (hl : l < 18446744073709551616) : okA f h l ∨ (addr_Right (f, (h : Int), (l : Int)) = some false ∧ ref02_Right (f, (h : Int), (l : Int)) = some false) := by
  by_cases h6 : f = 6
  · exact .inl (.inr ⟨h6, hh, hl⟩)
  · have e6 : (f == 6) = false := by simpa using h6
    by_cases h4 : f = 4
    · subst h4
      by_cases h0 : h = 0
      · subst h0
        by_cases hl4 : l < 4294967296
        · exact .inl (.inl ⟨rfl, rfl, hl4⟩)
        · right
          have hq : ¬ l / 2 ^ 32 = 0 := by omega
          have hs : (ishr .u64 (l : Int) 32 == 0) = false := (shr_is (x := l) (n := 32) (m := 0) (by decide)).trans (decide_eq_false hq)
          have hl' : ¬ (l : Int) < 4294967296 := by omega
          unfold addr_Right ref02_Right
          simp only [show ((4 : Int) == 4) = true from rfl, show ((4 : Int) == 6) = false from rfl, show (((0 : Nat) : Int) == 0) = true from rfl, cond_true, cond_false, hs, decide_eq_false hl']
          constructor <;> trivial
      · right
        have hz : ((h : Int) == 0) = false := (beq_nat h 0).trans (decide_eq_false h0)
        unfold addr_Right ref02_Right
        simp only [show ((4 : Int) == 4) = true from rfl, show ((4 : Int) == 6) = false from rfl, hz, cond_true, cond_false]
        constructor <;> trivial
    · right
      have e4 : (f == 4) = false := by simpa using h4
      unfold addr_Right ref02_Right
      simp only [e4, e6, cond_false]
      constructor <;> trivial
theorem byte0_eq {f : Int} {h l : Nat} (ho : okA f h l) : ref14_byte0 (f, (h : Int), (l : Int)) = some ((oct f h l 0 : Nat) : Int) := by
  unfold ref14_byte0
  have hlt := oct_lt f h l 0
  have h0 : (octs f h l)[0]? = some (UInt8.ofNat (oct f h l 0)) := by
    unfold octs
    rw [List.getElem?_map, List.getElem?_range (by unfold octN; split <;> decide)]
    rfl
  simp only [ref02_Bytes_eq ho, Option.bind_some, h0]
  have : (UInt8.ofNat (oct f h l 0)).toNat = oct f h l 0 := by simp [UInt8.toNat_ofNat', Nat.mod_eq_of_lt hlt]
  rw [this, wrap_i64 (by omega) (by omega)]
/-- Of many; of the host itself. -/
def mcA (f : Int) (h l : Nat) : Bool := if f = 6 then decide (h / 2 ^ 56 = 255) else decide (l / 2 ^ 28 = 14) || decide (l = 4294967295)
def lcA (f : Int) (h l : Nat) : Bool := if f = 6 then decide (h = 0) && decide (l < 2) else decide (l / 2 ^ 24 = 127) || decide (l / 2 ^ 24 = 0)
theorem beq_max (l : Nat) : ((l : Int) == 4294967295) = decide (l = 4294967295) := by
  have h2 : ((l : Int) = 4294967295) ↔ l = 4294967295 := by omega
  cases hd : decide (l = 4294967295) with
  | true => exact beq_iff_eq.2 (h2.2 (of_decide_eq_true hd))
  | false => exact beq_eq_false_iff_ne.2 fun h => (of_decide_eq_false hd) (h2.1 h)
theorem kinds4 {l : Nat} (hl : l < 4294967296) : let a : Int × Int × Int := (4, ((0 : Nat) : Int), (l : Int))
    tuple_Multicast a = some (mcA 4 0 l) ∧ ref14_Multicast a = some (mcA 4 0 l) ∧ tuple_Local a = some (lcA 4 0 l) ∧ ref14_Local a = some (lcA 4 0 l) ∧ (mcA 4 0 l && lcA 4 0 l) = false := by
  have ho : okA 4 0 l := .inl ⟨rfl, rfl, hl⟩
  have hb : oct 4 0 l 0 = l / 2 ^ 24 := by simp only [oct, if_true]; omega
  have e28 : (ishr .u64 (l : Int) 28 == 14) = decide (l / 2 ^ 28 = 14) := shr_is (x := l) (n := 28) (m := 14) (by decide)
  have e24 : (ishr .u64 (l : Int) 24 == 127) = decide (l / 2 ^ 24 = 127) := shr_is (x := l) (n := 24) (m := 127) (by decide)
  have e240 : (ishr .u64 (l : Int) 24 == 0) = decide (l / 2 ^ 24 = 0) := shr_is (x := l) (n := 24) (m := 0) (by decide)
  have eM := beq_max l
  have e4 : ((4 : Int) == 6) = false := rfl
  refine ⟨?_, ?_, ?_, ?_, ?_⟩
  · unfold tuple_Multicast
    simp only [addr_Right_ok ho, Option.bind_some, Bool.not_true, cond_false, e4]
    rw [e28, eM, bif_or]
    rfl
  · unfold ref14_Multicast
    simp only [ref02_Right_ok ho, Option.bind_some, Bool.not_true, cond_false, e4, byte0_eq ho, hb]
    rw [eM]
    have h1 : decide (((l / 2 ^ 24 : Nat) : Int) ≥ 224) = decide (224 ≤ l / 2 ^ 24) := by congr 1; apply propext; omega
    have h2 : decide (((l / 2 ^ 24 : Nat) : Int) < 240) = decide (l / 2 ^ 24 < 240) := by congr 1; apply propext; omega
    rw [h1, h2]
    have h3 : decide (l / 2 ^ 28 = 14) = (decide (224 ≤ l / 2 ^ 24) && decide (l / 2 ^ 24 < 240)) :=
      Bool.eq_iff_iff.2 (by simp only [Bool.and_eq_true, decide_eq_true_eq]; omega)
    simp only [mcA, show ¬ ((4 : Int) = 6) by decide, if_false, h3]
    cases decide (224 ≤ l / 2 ^ 24) <;> cases decide (l / 2 ^ 24 < 240) <;> rfl
  · unfold tuple_Local
    simp only [addr_Right_ok ho, Option.bind_some, Bool.not_true, cond_false, e4]
    rw [e24, e240, bif_or]
    rfl
  · unfold ref14_Local
    simp only [ref02_Right_ok ho, Option.bind_some, Bool.not_true, cond_false, e4, byte0_eq ho, hb]
    have h1 : (((l / 2 ^ 24 : Nat) : Int) == 127) = decide (l / 2 ^ 24 = 127) := beq_nat (l / 2 ^ 24) 127
    have h2 : (((l / 2 ^ 24 : Nat) : Int) == 0) = decide (l / 2 ^ 24 = 0) := beq_nat (l / 2 ^ 24) 0
    rw [h1, h2, bif_or]
    rfl
  · simp only [mcA, lcA, show ¬ ((4 : Int) = 6) by decide, if_false]
    rw [Bool.eq_false_iff]
    simp only [ne_eq, Bool.and_eq_true, Bool.or_eq_true, decide_eq_true_eq]
    omega
theorem kinds6 {h l : Nat} (hh : h < 18446744073709551616) (hl : l < 18446744073709551616) : let a : Int × Int × Int := (6, (h : Int), (l : Int))
    tuple_Multicast a = some (mcA 6 h l) ∧ ref14_Multicast a = some (mcA 6 h l) ∧ tuple_Local a = some (lcA 6 h l) ∧ ref14_Local a = some (lcA 6 h l) ∧ (mcA 6 h l && lcA 6 h l) = false := by
  have ho : okA 6 h l := .inr ⟨rfl, hh, hl⟩
  have hb : oct 6 h l 0 = h / 2 ^ 56 := by simp only [oct, show ¬ ((6 : Int) = 4) by decide, if_false]; rw [if_pos (by decide)]; omega
  have e56 := shr_is (x := h) (n := 56) (m := 255) (by decide)
  have e6 : ((6 : Int) == 6) = true := rfl
  have eh := beq_nat h 0
  have el : decide ((l : Int) < 2) = decide (l < 2) := by congr 1; apply propext; omega
  have el2 : decide ((l : Int) ≤ 1) = decide (l < 2) := by congr 1; apply propext; omega
  refine ⟨?_, ?_, ?_, ?_, ?_⟩
  · unfold tuple_Multicast
    simp only [addr_Right_ok ho, Option.bind_some, Bool.not_true, cond_false, e6, cond_true]
    exact congrArg some e56
  · unfold ref14_Multicast
    simp only [ref02_Right_ok ho, Option.bind_some, Bool.not_true, cond_false, e6, cond_true, byte0_eq ho, hb]
    exact congrArg some (beq_nat (h / 2 ^ 56) 255)
  · unfold tuple_Local
    simp only [addr_Right_ok ho, Option.bind_some, Bool.not_true, cond_false, e6, cond_true]
    rw [el, bif_and]
    exact congrArg (fun x => some (x && decide (l < 2))) eh
  · unfold ref14_Local
    simp only [ref02_Right_ok ho, Option.bind_some, Bool.not_true, cond_false, e6, cond_true]
    rw [el2, bif_and]
    exact congrArg (fun x => some (x && decide (l < 2))) eh
  · simp only [mcA, lcA, if_true]
    rw [Bool.eq_false_iff]
    simp only [ne_eq, Bool.and_eq_true, decide_eq_true_eq]
    rintro ⟨h1, h2, h3⟩
    subst h2
    omega
theorem kinds_join {a : Int × Int × Int} {m c : Bool} (h1 : tuple_Multicast a = some m) (h2 : ref14_Multicast a = some m) (h3 : tuple_Local a = some c) (h4 : ref14_Local a = some c) (h5 : (m && c) = false) : law14_TupleKinds a = some true := by
  unfold law14_TupleKinds
  simp only [h1, h2, h3, h4, Option.bind_some, beq_self_eq_true, cond_true]
  cases m <;> cases c <;> simp_all [law14_alive]
theorem kinds_true {f : Int} {h l : Nat} (hh : h < 18446744073709551616) (hl : l < 18446744073709551616) : law14_TupleKinds (f, (h : Int), (l : Int)) = some true := by
  rcases right_cases (f := f) hh hl with ho | ⟨h1, h2⟩
  · rcases ho with ⟨rfl, rfl, hl4⟩ | ⟨rfl, _, _⟩
    · obtain ⟨g1, g2, g3, g4, g5⟩ := kinds4 hl4
      exact kinds_join g1 g2 g3 g4 g5
    · obtain ⟨g1, g2, g3, g4, g5⟩ := kinds6 hh hl
      exact kinds_join g1 g2 g3 g4 g5
  · refine kinds_join (m := false) (c := false) ?_ ?_ ?_ ?_ rfl
    · unfold tuple_Multicast; simp only [h1, Option.bind_some, Bool.not_false, cond_true]
    · unfold ref14_Multicast; simp only [h2, Option.bind_some, Bool.not_false, cond_true]
    · unfold tuple_Local; simp only [h1, Option.bind_some, Bool.not_false, cond_true]
    · unfold ref14_Local; simp only [h2, Option.bind_some, Bool.not_false, cond_true]
theorem u64_nat {x : Int} (h : okT (.int .u64) x) : ∃ n : Nat, x = (n : Int) ∧ n < 18446744073709551616 := by
  obtain ⟨h1, h2⟩ := h
  rw [show IntKind.u64.min = 0 by decide +kernel] at h1
  rw [show IntKind.u64.max = 18446744073709551615 by decide +kernel] at h2
  have h1' : (0 : Int) ≤ x := h1
  have h2' : x ≤ (18446744073709551615 : Int) := h2
  clear h1 h2
  exact ⟨x.toNat, by omega, by omega⟩
theorem tupleKinds_ok (y : Int × Int × Int) (h : okT (.pair (.int .i64) (.pair (.int .u64) (.int .u64))) y) : law14_TupleKinds y = some true := by
  obtain ⟨f, a, b⟩ := y
  obtain ⟨_, h1, h2⟩ := h
  obtain ⟨a, rfl, ha⟩ := u64_nat h1
  obtain ⟨b, rfl, hb⟩ := u64_nat h2
  exact kinds_true ha hb
end Go.Proofs.YtgldfdpdjlohiaaDoor.Jv
