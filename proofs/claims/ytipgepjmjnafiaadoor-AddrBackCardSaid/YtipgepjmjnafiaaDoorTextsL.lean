/- AddrTexts: the law, plainly; conditions: none. -/
import Derived.Test.YtipgepjmjnafiaaDoorParse
import Derived.Test.YtipgepjmjnafiaaDoorRightsL
namespace Go.Proofs.YtipgepjmjnafiaaDoor.Jv
open Go
set_option linter.unusedSectionVars false
set_option linter.unusedVariables false
set_option linter.unusedSimpArgs false
theorem no_text {a : Int × Int × Int} (h1 : addr_Bytes a = some []) (h2 : ref02_Bytes a = some []) : addr_Text a = some [] ∧ ref02_Text a = some [] := by
  have w1 : IntKind.i64.wrap (0 + 1) = 1 := by decide +kernel
  constructor
  · unfold addr_Text
    rw [show addr_Bytes (a.1, a.2.1, a.2.2) = some [] from h1]
    have e1 : addr_Text_p175 ([], 0, []) = some [] := by
      unfold addr_Text_p175
      refine iter_end ?_
      unfold addr_Text_p175b
      rw [bif_ndec (by simp)]
    have e2 : addr_zeros [] = some (0, 0) := by
      unfold addr_zeros addr_zeros_p43
      rw [iter_end (o := (0, 0))]
      · rfl
      · unfold addr_zeros_p43b
        rw [bif_ndec (by simp)]
    have e3 : strings_Join [] [58] = some [] := by
      unfold strings_Join
      rw [decide_eq_true (by simp), decide_eq_true (by simp [joinB])]
      rfl
    simp only [Option.bind_some, List.length_nil]
    rw [show ((((0 : Nat) : Int)) == 4) = false from rfl, cond_false, e1]
    simp only [Option.bind_some]
    rw [e2]
    simp only [Option.bind_some]
    rw [bif_dec (by decide), e3]
    rfl
  · unfold ref02_Text
    rw [show ref02_Bytes (a.1, a.2.1, a.2.2) = some [] from h2]
    have e1 : ref02_Text_p351 ([], 0, [], []) = some ([], []) := by
      unfold ref02_Text_p351
      refine iter_end ?_
      unfold ref02_Text_p351b
      simp only [w1]
      rw [bif_ndec (by simp)]
    have e2 : ref02_Text_p1407 ([], -1, 1, 0, []) = some ([], -1, 1, []) := by
      unfold ref02_Text_p1407
      refine iter_end ?_
      unfold ref02_Text_p1407b
      rw [bif_ndec (by simp)]
    have e3 : ref02_Text_p2815 ([], -1, 1, 0, []) = some [] := by
      unfold ref02_Text_p2815
      refine iter_end ?_
      unfold ref02_Text_p2815b
      rw [bif_ndec (by simp)]
    simp only [Option.bind_some, List.length_nil]
    rw [show ((((0 : Nat) : Int)) == 4) = false from rfl, cond_false, e1]
    simp only [Option.bind_some]
    rw [e2]
    simp only [Option.bind_some]
    rw [e3]
    rfl
theorem text_both {a : A3} (ha : Rg a) : ∃ l, addr_Text a = some l ∧ ref02_Text a = some l ∧ l.length ≤ 100 := by
  obtain ⟨x, y, e, e1, e2, hx, hy⟩ := rg_nat ha
  rcases right_cases (f := a.1) hx hy with ho | ⟨ho, h1, h2⟩
  · refine ⟨textA a.1 x y, ?_, ?_, textA_len _ _ _⟩
    · rw [e]; exact addr_Text_eq ho
    · rw [e]; exact ref02_Text_eq ho
  · obtain ⟨g1, g2⟩ := no_text (a := a) (by
      rw [e]; unfold addr_Bytes; simp only [h1, Option.bind_some, Bool.not_false, cond_true]) (by
      rw [e]; unfold ref02_Bytes; simp only [h2, Option.bind_some, Bool.not_false, cond_true])
    exact ⟨[], g1, g2, by simp⟩
theorem addrTexts_ok (y0 : A3) (y1 : By) (k0 : okT tA y0 ∧ bulkT tA y0 ≤ 1048576) (k1 : okT .str y1 ∧ bulkT .str y1 ≤ 1048576) : law02_AddrTexts y0 y1 = some true := by
  have r0 := rg_ok k0.1
  have hs : y1.length ≤ 1048576 := by
    have : y1.length + 1 ≤ 1048576 := k1.2
    omega
  obtain ⟨l, hl, hl', _⟩ := text_both r0
  unfold law02_AddrTexts
  rw [addr_Parse_eq hs, ref_Parse_eq hs, show addr_Text (y0.1, y0.2.1, y0.2.2) = some l from hl, show ref02_Text (y0.1, y0.2.1, y0.2.2) = some l from hl']
  simp only [Option.bind_some, beq_self_eq_true, cond_true, Bool.and_self]
  rfl
end Go.Proofs.YtipgepjmjnafiaaDoor.Jv
