/- FtpAsks, plainly: what any bytes ask for is the reference's; conditions: none. -/
import Derived.Test.YtpkhlncohbakkaaGreatDoorPlacesL
namespace Go.Proofs.YtpkhlncohbakkaaGreatDoor.Jv
open Go
set_option linter.unusedSectionVars false
set_option linter.unusedVariables false
set_option linter.unusedSimpArgs false
/-- What lines say. -/
def asksQ (fam side : Int) (L : List By) : List AskT := L.filterMap fun s => if (placeQ fam side s).2 = true then some (placeQ fam side s).1 else none
theorem asksQ_cons (fam side : Int) (s : By) (L : List By) : asksQ fam side (s :: L) = (if (placeQ fam side s).2 = true then [(placeQ fam side s).1] else []) ++ asksQ fam side L := by
  unfold asksQ
  rw [List.filterMap_cons]
  split
  · rename_i h
    split at h
    · cases h
    · rename_i h2; rw [if_neg h2]; rfl
  · rename_i q h
    split at h
    · rename_i h2; cases h; rw [if_pos h2]; rfl
    · cases h
theorem ftp_asks_loop (fam side : Int) {L : List By} (hL : L.length ≤ 1048576) (hx : ∀ x ∈ L, x.length ≤ 1048576) : ∀ k i (acc : List AskT), i + k = 8 → acc.length ≤ i →
    ftp_Asks_p43 (fam, side, L, (L.length : Int), (i : Int), acc) = some (acc ++ asksQ fam side ((L.drop i).take k)) := by
  intro k
  induction k with
  | zero =>
    intro i acc h1 h2
    unfold ftp_Asks_p43
    rw [List.take_zero, show asksQ fam side [] = [] from rfl, List.append_nil]
    refine iter_end ?_
    unfold ftp_Asks_p43b
    simp only
    by_cases hi : i < L.length
    · rw [bif_dec (by omega), bif_dec (by omega), Int.toNat_natCast, List.getElem?_eq_getElem hi]
      simp only [Option.bind_some]
      rw [show ((i : Int) == 8) = true by rw [beq_iff_eq]; omega]
      rfl
    · rw [bif_ndec (by omega)]
  | succ k ih =>
    intro i acc h1 h2
    unfold ftp_Asks_p43
    by_cases hi : i < L.length
    · have e1 : IntKind.i64.wrap ((i : Int) + 1) = ((i + 1 : Nat) : Int) := by rw [wrap_i64 (by omega) (by omega)]; omega
      rw [List.drop_eq_getElem_cons hi, List.take_succ_cons, asksQ_cons]
      have hp := ftp_Place_eq fam side (hx _ (List.getElem_mem hi))
      cases hq : (placeQ fam side L[i]).2 with
      | true =>
        refine (iter_go (s' := (fam, side, L, (L.length : Int), ((i + 1 : Nat) : Int), acc ++ [(placeQ fam side L[i]).1])) ?_).trans ?_
        · unfold ftp_Asks_p43b
          simp only
          rw [bif_dec (by omega), bif_dec (by omega), Int.toNat_natCast, List.getElem?_eq_getElem hi]
          simp only [Option.bind_some]
          rw [show ((i : Int) == 8) = false by rw [beq_eq_false_iff_ne]; omega, cond_false, hp]
          simp only [Option.bind_some]
          rw [hq, cond_true, fits_of (by omega) (by omega), cond_true, e1]
        · rw [if_pos rfl, ← List.append_assoc]
          exact ih (i + 1) _ (by omega) (by simp; omega)
      | false =>
        refine (iter_go (s' := (fam, side, L, (L.length : Int), ((i + 1 : Nat) : Int), acc)) ?_).trans ?_
        · unfold ftp_Asks_p43b
          simp only
          rw [bif_dec (by omega), bif_dec (by omega), Int.toNat_natCast, List.getElem?_eq_getElem hi]
          simp only [Option.bind_some]
          rw [show ((i : Int) == 8) = false by rw [beq_eq_false_iff_ne]; omega, cond_false, hp]
          simp only [Option.bind_some]
          rw [hq, cond_false, e1]
        · rw [if_neg (by simp), List.nil_append]
          exact ih (i + 1) _ (by omega) (by omega)
    · rw [List.drop_eq_nil_of_le (by omega), List.take_nil, show asksQ fam side [] = [] from rfl, List.append_nil]
      refine iter_end ?_
      unfold ftp_Asks_p43b
      rw [bif_ndec (by simp only; omega)]
theorem ref_asks_loop (fam side : Int) {L : List By} (hL : L.length ≤ 1048576) (hx : ∀ x ∈ L, x.length ≤ 1048576) : ∀ k i (acc : List AskT), i + k = 8 → acc.length ≤ i →
    ref18_Asks_p87 (fam, side, L, (i : Int), acc) = some (acc ++ asksQ fam side ((L.drop i).take k)) := by
  intro k
  induction k with
  | zero =>
    intro i acc h1 h2
    unfold ref18_Asks_p87
    rw [List.take_zero, show asksQ fam side [] = [] from rfl, List.append_nil]
    refine iter_end ?_
    unfold ref18_Asks_p87b ref18_Asks_p279
    simp only
    by_cases hi : i < L.length
    · rw [bif_dec (by omega), bif_ndec (by omega)]
      rfl
    · rw [bif_ndec (by omega)]
      rfl
  | succ k ih =>
    intro i acc h1 h2
    unfold ref18_Asks_p87
    by_cases hi : i < L.length
    · have e1 : IntKind.i64.wrap ((i : Int) + 1) = ((i + 1 : Nat) : Int) := by rw [wrap_i64 (by omega) (by omega)]; omega
      rw [List.drop_eq_getElem_cons hi, List.take_succ_cons, asksQ_cons]
      have hp := ref_Place_eq fam side (hx _ (List.getElem_mem hi))
      cases hq : (placeQ fam side L[i]).2 with
      | true =>
        refine (iter_go (s' := (fam, side, L, ((i + 1 : Nat) : Int), acc ++ [(placeQ fam side L[i]).1])) ?_).trans ?_
        · unfold ref18_Asks_p87b ref18_Asks_p279
          simp only
          rw [bif_dec (by omega), bif_dec (by omega)]
          simp only [Option.bind_some, Sum.elim_inl]
          rw [bif_dec (by omega), Int.toNat_natCast, List.getElem?_eq_getElem hi]
          simp only [Option.bind_some]
          rw [hp]
          simp only [Option.bind_some]
          rw [hq, cond_true, fits_of (by omega) (by omega), cond_true, e1]
        · rw [if_pos rfl, ← List.append_assoc]
          exact ih (i + 1) _ (by omega) (by simp; omega)
      | false =>
        refine (iter_go (s' := (fam, side, L, ((i + 1 : Nat) : Int), acc)) ?_).trans ?_
        · unfold ref18_Asks_p87b ref18_Asks_p279
          simp only
          rw [bif_dec (by omega), bif_dec (by omega)]
          simp only [Option.bind_some, Sum.elim_inl]
          rw [bif_dec (by omega), Int.toNat_natCast, List.getElem?_eq_getElem hi]
          simp only [Option.bind_some]
          rw [hp]
          simp only [Option.bind_some]
          rw [hq, cond_false, e1]
        · rw [if_neg (by simp), List.nil_append]
          exact ih (i + 1) _ (by omega) (by omega)
    · rw [List.drop_eq_nil_of_le (by omega), List.take_nil, show asksQ fam side [] = [] from rfl, List.append_nil]
      refine iter_end ?_
      unfold ref18_Asks_p87b ref18_Asks_p279
      simp only
      rw [bif_ndec (by omega)]
      rfl
theorem lns_small : ∀ (n : Nat) (s : By), ∀ x ∈ lnsF n s, x.length ≤ s.length := by
  intro n
  induction n with
  | zero => intro s x hx; simp [lnsF] at hx
  | succ n ih =>
    intro s x hx
    unfold lnsF at hx
    split at hx
    · cases hx
    · rcases List.mem_cons.1 hx with rfl | hx
      · rw [List.length_take]; omega
      · have := ih _ x hx
        rw [List.length_drop] at this
        omega
theorem ftp_Asks_eq (fam side : Int) {s : By} (hs : s.length ≤ 1048576) : ftp_Asks fam side s = some (asksQ fam side ((lnsF s.length s).take 8)) := by
  unfold ftp_Asks
  rw [lines_eq hs]
  simp only [Option.bind_some]
  have := ftp_asks_loop fam side (L := lnsF s.length s) (Nat.le_trans (lns_len _ _) hs) (fun x hx => Nat.le_trans (lns_small _ _ x hx) hs) 8 0 [] (by omega) (by simp)
  rw [List.drop_zero, List.nil_append] at this
  rw [show ((0 : Int)) = ((0 : Nat) : Int) from rfl, this]
  rfl
theorem ref_Asks_eq (fam side : Int) {s : By} (hs : s.length ≤ 1048576) : ref18_Asks fam side s = some (asksQ fam side ((lnsF s.length s).take 8)) := by
  unfold ref18_Asks
  rw [ref_lines_eq hs]
  simp only [Option.bind_some]
  have := ref_asks_loop fam side (L := lnsF s.length s) (Nat.le_trans (lns_len _ _) hs) (fun x hx => Nat.le_trans (lns_small _ _ x hx) hs) 8 0 [] (by omega) (by simp)
  rw [List.drop_zero, List.nil_append] at this
  rw [show ((0 : Int)) = ((0 : Nat) : Int) from rfl, this]
  rfl
theorem same_loop {l : List AskT} (hl : l.length ≤ 1048576) : ∀ k i, i + k = l.length → ref18_Same_p43 (l, l, (i : Int)) = some (.inl ()) := by
  intro k
  induction k with
  | zero =>
    intro i h
    unfold ref18_Same_p43
    refine iter_end ?_
    unfold ref18_Same_p43b
    rw [bif_ndec (by simp only; omega)]
  | succ k ih =>
    intro i h
    have hi : i < l.length := by omega
    have e1 : IntKind.i64.wrap ((i : Int) + 1) = ((i + 1 : Nat) : Int) := by rw [wrap_i64 (by omega) (by omega)]; omega
    unfold ref18_Same_p43
    refine (iter_go (s' := (l, l, ((i + 1 : Nat) : Int))) ?_).trans (ih (i + 1) (by omega))
    unfold ref18_Same_p43b
    simp only
    rw [bif_dec (by omega), bif_dec (by omega), Int.toNat_natCast, List.getElem?_eq_getElem hi]
    simp only [Option.bind_some]
    rw [bif_dec (by omega), e1]
    simp
theorem same_self {l : List AskT} (hl : l.length ≤ 1048576) : ref18_Same l l = some true := by
  unfold ref18_Same
  rw [show ((l.length : Int) != (l.length : Int)) = false by simp, cond_false, show ((0 : Int)) = ((0 : Nat) : Int) from rfl, same_loop hl l.length 0 (by omega)]
  rfl
theorem ftpAsks_ok (fam side : Int) (s : By) (_ : okT (.int .i64) fam ∧ bulkT (.int .i64) fam ≤ 1048576) (_ : okT (.int .i64) side ∧ bulkT (.int .i64) side ≤ 1048576) (h : okT (.sl .u8) s ∧ bulkT (.sl .u8) s ≤ 1048576) : law18_FtpAsks fam side s = some true := by
  have hs := bulk_bytes h.2
  unfold law18_FtpAsks
  rw [ftp_Asks_eq fam side hs, ref_Asks_eq fam side hs]
  simp only [Option.bind_some]
  rw [same_self (by unfold asksQ; refine Nat.le_trans (List.length_filterMap_le _ _) ?_; rw [List.length_take]; omega)]
  rfl
end Go.Proofs.YtpkhlncohbakkaaGreatDoor.Jv
