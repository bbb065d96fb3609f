/- The text of an address, by both; conditions: none. -/
import Derived.Test.YtipgepjmjnafiaaDoorTexts6
namespace Go.Proofs.YtipgepjmjnafiaaDoor.Jv
open Go
set_option linter.unusedSectionVars false
set_option linter.unusedVariables false
set_option linter.unusedSimpArgs false
/-- An address's text. -/
def textA (f : Int) (h l : Nat) : List UInt8 := if f = 4 then joinB [46] (d4 (octs 4 0 l)) else text6 (gsOf (octs 6 h l))
theorem addr_Text_eq {f : Int} {h l : Nat} (ho : okA f h l) : addr_Text (f, (h : Int), (l : Int)) = some (textA f h l) := by
  rcases ho with ⟨rfl, rfl, hl⟩ | ⟨rfl, hh, hl⟩
  · rw [(text4 hl).1]; rfl
  · rw [addr_text6 hh hl]; rfl
theorem ref02_Text_eq {f : Int} {h l : Nat} (ho : okA f h l) : ref02_Text (f, (h : Int), (l : Int)) = some (textA f h l) := by
  rcases ho with ⟨rfl, rfl, hl⟩ | ⟨rfl, hh, hl⟩
  · rw [(text4 hl).2]; rfl
  · rw [ref_text6 hh hl]; rfl
theorem textA_len (f : Int) (h l : Nat) : (textA f h l).length ≤ 100 := by
  unfold textA
  split
  · have h1 := joinB_len 46 (d4 (octs 4 0 l)) 20 fun x hx => by
      obtain ⟨y, _, rfl⟩ := List.mem_map.1 hx
      exact d10_len _
    have h2 : (d4 (octs 4 0 l)).length = 4 := by simp [d4, octs, octN]
    rw [h2] at h1
    omega
  · have := text6_len (gs_len (octs 6 h l))
    omega
end Go.Proofs.YtipgepjmjnafiaaDoor.Jv
