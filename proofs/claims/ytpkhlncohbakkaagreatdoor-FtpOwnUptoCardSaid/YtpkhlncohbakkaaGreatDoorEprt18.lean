/- A line's other places, by both; conditions: none. -/
import Derived.Test.YtpkhlncohbakkaaGreatDoorSix18
namespace Go.Proofs.YtpkhlncohbakkaaGreatDoor.Jv
open Go
set_option linter.unusedSectionVars false
set_option linter.unusedVariables false
set_option linter.unusedSimpArgs false
/-- May a byte stand between parts? -/
def mkB (c : UInt8) : Bool := decide (33 ≤ c.toNat) && (decide (c.toNat ≤ 126) && !(decide (48 ≤ c.toNat) && decide (c.toNat ≤ 57)))
theorem mark_nil : ftp_mark [] = some ([], false) := by
  unfold ftp_mark ftp_mark_p21
  rw [iter_end (o := .inl ())]
  · rfl
  · unfold ftp_mark_p21b
    rw [bif_ndec (by simp)]
theorem mark_is (c : UInt8) (l : By) : ftp_mark (c :: l) = some ([c], mkB c) := by
  have h1 : (1 : Int) ≤ (((c :: l).length : Nat) : Int) := by simp only [List.length_cons]; omega
  have key : ftp_mark_p21b (c :: l, c :: l, 0) = some (.inr (.inr ([c], mkB c))) := by
    unfold ftp_mark_p21b
    simp only
    rw [bif_dec (by simp), bif_dec h1]
    by_cases hb : c.toNat < 128
    · rw [decode_low (s := c :: l) (i := 0) (by simp) hb]
      simp only [List.getElem_cons_zero]
      unfold mkB
      by_cases a1 : 33 ≤ c.toNat
      · rw [bif_dec (by omega), decide_eq_true a1]
        by_cases a2 : c.toNat ≤ 126
        · rw [bif_dec (by omega), decide_eq_true a2]
          by_cases a3 : 48 ≤ c.toNat
          · rw [bif_ndec (by omega), decide_eq_true a3]
            simp only [Bool.true_and]
            by_cases a4 : c.toNat ≤ 57
            · rw [decide_eq_true a4, decide_eq_false (by omega)]; rfl
            · rw [decide_eq_false a4, decide_eq_true (by omega)]; rfl
          · rw [bif_dec (by omega), decide_eq_false a3]; rfl
        · rw [bif_ndec (by omega), decide_eq_false a2]; rfl
      · rw [bif_ndec (by omega), decide_eq_false a1]; rfl
    · have hd := decode_high (s := c :: l) (i := 0) (by simp) hb
      generalize (Utf8.decode ⟨⟨c :: l⟩⟩ 0).1 = r at hd
      rw [bif_dec (show ((r : Nat) : Int) ≥ 33 by omega), bif_ndec (show ¬ ((r : Nat) : Int) ≤ 126 by omega)]
      unfold mkB
      rw [decide_eq_false (show ¬ c.toNat ≤ 126 by omega)]
      simp
  unfold ftp_mark ftp_mark_p21
  rw [iter_end key]
  rfl
theorem ref_mark_is (c : UInt8) : ref18_mark c = some (mkB c) := by
  unfold ref18_mark mkB
  by_cases a1 : 33 ≤ c.toNat
  · rw [bif_dec (by omega), decide_eq_true a1]
    by_cases a2 : c.toNat ≤ 126
    · rw [bif_dec (by omega), decide_eq_true a2]
      by_cases a3 : 48 ≤ c.toNat
      · rw [bif_dec (by omega), decide_eq_true a3]
        simp only [Bool.true_and]
        by_cases a4 : c.toNat ≤ 57
        · rw [decide_eq_true a4, decide_eq_true (by omega)]
        · rw [decide_eq_false a4, decide_eq_false (by omega)]
      · rw [bif_ndec (by omega), decide_eq_false a3]; rfl
    · rw [bif_ndec (by omega), decide_eq_false a2]; rfl
  · rw [bif_ndec (by omega), decide_eq_false a1]; rfl
/-! ### All digits, and a port -/
theorem digits_loop {s : By} (hs : s.length ≤ 1048576) : ∀ k i, i + k = s.length → ref18_digits_p21 (s, (i : Int)) = some (if (s.drop i).all isDig then .inl s else .inr false) := by
  intro k
  induction k with
  | zero =>
    intro i h
    unfold ref18_digits_p21
    rw [List.drop_eq_nil_of_le (by omega)]
    refine iter_end ?_
    unfold ref18_digits_p21b
    rw [bif_ndec (by simp only; omega)]
    rfl
  | succ k ih =>
    intro i h
    have hi : i < s.length := by omega
    have e1 : IntKind.i64.wrap ((i : Int) + 1) = ((i + 1 : Nat) : Int) := by rw [wrap_i64 (by omega) (by omega)]; omega
    rw [List.drop_eq_getElem_cons hi, List.all_cons]
    unfold ref18_digits_p21
    by_cases a1 : 48 ≤ s[i].toNat
    · by_cases a2 : s[i].toNat ≤ 57
      · refine (iter_go (s' := (s, ((i + 1 : Nat) : Int))) ?_).trans ?_
        · unfold ref18_digits_p21b
          simp only
          rw [bif_dec (by omega), bif_dec (by omega), bif_dec (by omega), bL_at hi, bif_ndec (by omega), bif_dec (by omega), bif_dec (by omega), bif_ndec (by omega), e1]
        · have hd : isDig s[i] = true := by unfold isDig; simp [a1, a2]
          rw [hd, Bool.true_and]
          exact ih (i + 1) (by omega)
      · have hd : isDig s[i] = false := by unfold isDig; simp; omega
        rw [hd, Bool.false_and]
        refine iter_end ?_
        unfold ref18_digits_p21b
        simp only
        rw [bif_dec (by omega), bif_dec (by omega), bif_dec (by omega), bL_at hi, bif_ndec (by omega), bif_dec (by omega), bif_dec (by omega), bif_dec (by omega)]
        rfl
    · have hd : isDig s[i] = false := by unfold isDig; simp; omega
      rw [hd, Bool.false_and]
      refine iter_end ?_
      unfold ref18_digits_p21b
      simp only
      rw [bif_dec (by omega), bif_dec (by omega), bif_dec (by omega), bL_at hi, bif_dec (by omega)]
      rfl
theorem ref_digits_eq {s : By} (hs : s.length ≤ 1048576) : ref18_digits s = some (!(s == []) && s.all isDig) := by
  unfold ref18_digits
  have := digits_loop hs s.length 0 (by omega)
  rw [List.drop_zero] at this
  rw [show ((0 : Int)) = ((0 : Nat) : Int) from rfl, this]
  cases s.all isDig with
  | true => simp
  | false => simp
theorem portM_digits {s : By} {n : Nat} (h : portM s = some n) : (!(s == []) && s.all isDig) = true := by
  unfold portM at h
  cases hm : decM 65535 s with
  | none => rw [hm] at h; cases h
  | some k =>
    unfold decM at hm
    split at hm
    · cases hm
    · rename_i hc
      have h0 : s ≠ [] := fun e => hc (.inl e)
      cases ha : s.all isDig with
      | true => simpa using h0
      | false =>
        exfalso
        rw [List.all_eq_false] at ha
        obtain ⟨c, hc1, hc2⟩ := ha
        rw [refN_bad 0 ⟨c, hc1, dv_not (by simpa using hc2)⟩] at hm
        cases hm
theorem ref_port_tells {s : By} (hs : s.length ≤ 1048576) : Tells (ref18_port s) (portM s) := by
  obtain ⟨x, hx, hv⟩ := ref_dec hs (m := 65535) (by omega) (by omega)
  have hx' : ref02_Number s 10 65535 = _ := hx
  unfold ref18_port portM
  rw [hx']
  simp only [Option.bind_some]
  cases hm : decM 65535 s with
  | none => exact ⟨x, rfl, fun n h => by cases h⟩
  | some n =>
    have := hv n hm
    subst this
    simp only [Option.isSome_some, cond_true, Option.bind_some]
    by_cases h0 : 0 < n
    · rw [if_pos h0, decide_eq_true (by omega)]
      exact ⟨_, rfl, fun k h => by cases h; rfl⟩
    · rw [if_neg h0, decide_eq_false (by omega)]
      exact ⟨_, rfl, fun k h => by cases h⟩
/-! ### EPRT -/
def famP (fam : Int) (p : By) : Bool := (p == [49] && fam == 4) || (p == [50] && fam == 6)
def eprtL (fam : Int) : List By → AskT × Bool
  | [p0, p1, p2, p3, p4] => if p0 = [] ∧ p4 = [] ∧ (parseM p2).2 = 0 ∧ (parseM p2).1.1 = fam ∧ famP fam p1 = true then (match portM p3 with | some n => ((6, (parseM p2).1, (n : Int)), true) | none => errQ) else errQ
  | _ => errQ
def eprtQ (fam : Int) : By → AskT × Bool
  | [] => errQ
  | c :: l => if mkB c then eprtL fam (spl c (c :: l)) else errQ
theorem eprtL_bad {fam : Int} {L : List By} (h : L.length ≠ 5) : eprtL fam L = errQ := by
  unfold eprtL
  split
  · simp at h
  · rfl
theorem ftp_eprt_eq {fam : Int} (hf : fam = 4 ∨ fam = 6) {s : By} (hs : s.length ≤ 1048576) : ftp_eprt fam s = some (eprtQ fam s) := by
  unfold ftp_eprt
  cases s with
  | nil => rw [mark_nil]; rfl
  | cons c l =>
    rw [mark_is]
    simp only [Option.bind_some]
    rw [show eprtQ fam (c :: l) = if mkB c then eprtL fam (spl c (c :: l)) else errQ from rfl]
    cases hc : mkB c with
    | false => rfl
    | true =>
      simp only [Bool.not_true, cond_false, if_true]
      rw [Split_eq hs]
      obtain ⟨g1, g2⟩ := spl_small hs c
      generalize spl c (c :: l) = L at g1 g2
      simp only [Option.bind_some]
      unfold ftp_eprt_p47
      simp only
      by_cases h5 : L.length = 5
      · rw [show ((L.length : Int) != 5) = false by rw [h5]; rfl, cond_false]
        match L, h5, g2 with
        | [p0, p1, p2, p3, p4], _, g2 =>
          simp only [List.getElem?_cons_zero, List.getElem?_cons_succ, Option.bind_some]
          unfold eprtL
          cases h0 : (p0 == ([] : By)) with
          | false => exact (show some errQ = _ from congrArg some (if_neg (fun h => by rw [h.1] at h0; cases h0)).symm)
          | true =>
            simp only [Bool.not_true, cond_false]
            cases h4 : (p4 == ([] : By)) with
            | false => exact (show some errQ = _ from congrArg some (if_neg (fun h => by rw [h.2.1] at h4; cases h4)).symm)
            | true =>
              have z0 : p0 = [] := eq_of_beq h0
              have z4 : p4 = [] := eq_of_beq h4
              simp only [Bool.not_true, cond_false, Option.bind_some, Sum.elim_inl, List.getElem?_cons_zero, List.getElem?_cons_succ]
              rw [addr_Parse_eq (s := p2) (g2 p2 (by simp))]
              simp only [Option.bind_some]
              obtain ⟨x, hx, hv⟩ := port_tells (s := p3) (g2 p3 (by simp))
              rw [hx]
              simp only [Option.bind_some]
              by_cases he : (parseM p2).2 = 0
              · rw [show ((parseM p2).2 != 0) = false by rw [he]; rfl, cond_false]
                cases hm : portM p3 with
                | none => exact (show some errQ = _ by split <;> rfl)
                | some n =>
                  have hn := hv n hm
                  subst hn
                  simp only [Option.isSome_some, Bool.not_true, cond_false]
                  by_cases hfam : (parseM p2).1.1 = fam
                  · rw [show ((parseM p2).1.1 != fam) = false by rw [hfam]; simp, cond_false]
                    have hI : strconv_Itoa (IntKind.i64.wrap ((IntKind.i64.wrap (Int.tdiv fam 2)) - 1)) = some (if fam = 4 then [49] else [50]) := by
                      rcases hf with rfl | rfl
                      · rfl
                      · rfl
                    rw [hI]
                    simp only [Option.bind_some]
                    have hP : famP fam p1 = (p1 == (if fam = 4 then [49] else [50])) := by
                      unfold famP
                      rcases hf with rfl | rfl
                      · simp
                      · simp
                    rw [hP]
                    cases h1 : (p1 == (if fam = 4 then [49] else [50])) with
                    | false => rw [if_neg (fun h => by cases h.2.2.2.2)]; rfl
                    | true => rw [if_pos ⟨z0, z4, he, hfam, rfl⟩]; rfl
                  · rw [show ((parseM p2).1.1 != fam) = true by rw [bne_iff_ne]; exact hfam, if_neg (fun h => hfam h.2.2.2.1)]
                    rfl
              · rw [show ((parseM p2).2 != 0) = true by rw [bne_iff_ne]; exact he, if_neg (fun h => he h.2.2.1)]
                rfl
      · rw [show ((L.length : Int) != 5) = true by rw [bne_iff_ne]; omega, eprtL_bad h5]
        rfl
theorem ref_eprt_eq (fam : Int) {s : By} (hs : s.length ≤ 1048576) : ref18_eprt fam s = some (eprtQ fam s) := by
  unfold ref18_eprt ref18_eprt_p5
  cases s with
  | nil => rfl
  | cons c l =>
    have h1 : (0 : Int) < (((c :: l).length : Nat) : Int) := by simp only [List.length_cons]; omega
    have hb : bL (c :: l) 0 = ((c.toNat : Nat) : Int) := bL_at (s := c :: l) (i := 0) (by simp)
    simp only [hb, Int.toNat_natCast, ofNat_toNat8]
    rw [show ((c :: l) == ([] : By)) = false from rfl, cond_false, bif_dec h1, ref_mark_is]
    simp only [Option.bind_some]
    rw [show eprtQ fam (c :: l) = if mkB c then eprtL fam (spl c (c :: l)) else errQ from rfl]
    cases hc : mkB c with
    | false => rfl
    | true =>
      simp only [Bool.not_true, cond_false, if_true, Option.bind_some, Sum.elim_inl]
      simp only [hb, Int.toNat_natCast, ofNat_toNat8]
      rw [bif_dec h1, ref_Split_eq hs]
      obtain ⟨g1, g2⟩ := spl_small hs c
      generalize spl c (c :: l) = L at g1 g2
      simp only [Option.bind_some]
      unfold ref18_eprt_p23
      simp only
      by_cases h5 : L.length = 5
      · rw [show ((L.length : Int) != 5) = false by rw [h5]; rfl, cond_false]
        match L, h5, g2 with
        | [p0, p1, p2, p3, p4], _, g2 =>
          simp only [List.getElem?_cons_zero, List.getElem?_cons_succ, Option.bind_some]
          unfold eprtL
          cases h0 : (p0 == ([] : By)) with
          | false => exact (show some errQ = _ from congrArg some (if_neg (fun h => by rw [h.1] at h0; cases h0)).symm)
          | true =>
            simp only [Bool.not_true, cond_false]
            cases h4 : (p4 == ([] : By)) with
            | false => exact (show some errQ = _ from congrArg some (if_neg (fun h => by rw [h.2.1] at h4; cases h4)).symm)
            | true =>
              have z0 : p0 = [] := eq_of_beq h0
              have z4 : p4 = [] := eq_of_beq h4
              simp only [Bool.not_true, cond_false, Option.bind_some, Sum.elim_inl, List.getElem?_cons_zero, List.getElem?_cons_succ]
              rw [ref_digits_eq (s := p3) (g2 p3 (by simp))]
              simp only [Option.bind_some]
              cases hd : (!(p3 == []) && p3.all isDig) with
              | false =>
                have hm : portM p3 = none := by
                  cases hm : portM p3 with
                  | none => rfl
                  | some n => rw [portM_digits hm] at hd; cases hd
                rw [hm]
                exact (show some errQ = _ by split <;> rfl)
              | true =>
                simp only [Bool.not_true, cond_false, Option.bind_some, Sum.elim_inl]
                unfold ref18_eprt_p31
                simp only [List.getElem?_cons_zero, List.getElem?_cons_succ, Option.bind_some]
                rw [ref_Parse_eq (s := p2) (g2 p2 (by simp))]
                simp only [Option.bind_some]
                obtain ⟨x, hx, hv⟩ := ref_port_tells (s := p3) (g2 p3 (by simp))
                rw [hx]
                simp only [Option.bind_some]
                by_cases he : (parseM p2).2 = 0
                · rw [show ((parseM p2).2 != 0) = false by rw [he]; rfl, cond_false]
                  cases hm : portM p3 with
                  | none => exact (show some errQ = _ by split <;> rfl)
                  | some n =>
                    have hn := hv n hm
                    subst hn
                    simp only [Option.isSome_some, Bool.not_true, cond_false]
                    by_cases hfam : (parseM p2).1.1 = fam
                    · rw [show ((parseM p2).1.1 != fam) = false by rw [hfam]; simp, cond_false]
                      unfold famP
                      cases e1 : (p1 == ([49] : By)) with
                      | true =>
                        have e2 : (p1 == ([50] : By)) = false := by rw [eq_of_beq e1]; rfl
                        rw [e2]
                        cases e3 : (fam == 4) with
                        | true => rw [if_pos ⟨z0, z4, he, hfam, rfl⟩]; rfl
                        | false => rw [if_neg (fun h => by cases h.2.2.2.2)]; rfl
                      | false =>
                        cases e2 : (p1 == ([50] : By)) with
                        | true =>
                          cases e3 : (fam == 6) with
                          | true => rw [if_pos ⟨z0, z4, he, hfam, rfl⟩]; rfl
                          | false => rw [if_neg (fun h => by cases h.2.2.2.2)]; rfl
                        | false => rw [if_neg (fun h => by cases h.2.2.2.2)]; rfl
                    · rw [show ((parseM p2).1.1 != fam) = true by rw [bne_iff_ne]; exact hfam, if_neg (fun h => hfam h.2.2.2.1)]
                      rfl
                · rw [show ((parseM p2).2 != 0) = true by rw [bne_iff_ne]; exact he, if_neg (fun h => he h.2.2.1)]
                  rfl
      · rw [show ((L.length : Int) != 5) = true by rw [bne_iff_ne]; omega, eprtL_bad h5]
        rfl
end Go.Proofs.YtpkhlncohbakkaaGreatDoor.Jv
