/- FtpSides: the law, plainly; conditions: none. -/
import Derived.Test.YtpkhlncohbakkaaDoorPlace18
namespace Go.Proofs.YtpkhlncohbakkaaDoor.Jv
open Go
set_option linter.unusedSectionVars false
set_option linter.unusedVariables false
set_option linter.unusedSimpArgs false
theorem ftpSides_ok (y0 : Int) (y1 : By) (k0 : okT (.int .i64) y0 ∧ bulkT (.int .i64) y0 ≤ 1048576) (k1 : okT .str y1 ∧ bulkT .str y1 ≤ 1048576) : law18_FtpSides y0 y1 = some true := by
  have hs : y1.length ≤ 1048576 := by
    have : y1.length + 1 ≤ 1048576 := k1.2
    omega
  obtain ⟨a, ha, fa, pa, _⟩ := place_fine y0 (side := 0) hs
  obtain ⟨b, hb, fb, _, pb⟩ := place_fine y0 (side := 1) hs
  unfold law18_FtpSides
  rw [ha, hb]
  simp only [Option.bind_some]
  have hal : law18_alive = some true := rfl
  rw [hal]
  cases h1 : a.2 with
  | true =>
    cases h2 : b.2 with
    | true =>
      exfalso
      have q1 := (pa rfl h1).2
      have q2 := pb rfl h2
      cases y1 with
      | nil => rcases q2 with e | e <;> cases e
      | cons c l =>
        have e1 : c = 50 := by rcases q2 with e | e <;> exact (List.cons.inj e).1
        subst e1
        rcases q1 with e | e
        · have := (List.cons.inj e).1
          exact absurd this (by decide)
        · have := (List.cons.inj e).1
          exact absurd this (by decide)
    | false =>
      obtain ⟨r1, r2⟩ := fa h1
      have r3 := (pa rfl h1).1
      simp only [Bool.not_true, Bool.not_false, cond_true, cond_false]
      rw [bif_dec r1, bif_dec r2, r3]
      simp
  | false =>
    cases h2 : b.2 with
    | true =>
      obtain ⟨r1, r2⟩ := fb h2
      simp only [Bool.not_true, Bool.not_false, cond_true, cond_false]
      rw [bif_dec r1, bif_dec r2]
      rfl
    | false => rfl
end Go.Proofs.YtpkhlncohbakkaaDoor.Jv
