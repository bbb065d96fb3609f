/- FtpOwn, plainly: bytes are not turned, and what was answered may be written over; conditions: none. -/
import Derived.Test.YtpkhlncohbakkaaGreatDoorAsksL
namespace Go.Proofs.YtpkhlncohbakkaaGreatDoor.Jv
open Go
set_option linter.unusedSectionVars false
set_option linter.unusedVariables false
set_option linter.unusedSimpArgs false
theorem texts_loop {L : List By} (hL : L.length ≤ 1048576) : ∀ k i, i + k = L.length → law18_sameTexts_p43 (L, L, (L.length : Int), (i : Int)) = some (.inl ()) := by
  intro k
  induction k with
  | zero =>
    intro i h1
    unfold law18_sameTexts_p43
    refine iter_end ?_
    unfold law18_sameTexts_p43b
    simp only
    rw [bif_ndec (by omega)]
  | succ k ih =>
    intro i h1
    have hi : i < L.length := by omega
    have e1 : IntKind.i64.wrap ((i : Int) + 1) = ((i + 1 : Nat) : Int) := by rw [wrap_i64 (by omega) (by omega)]; omega
    rw [← ih (i + 1) (by omega)]
    unfold law18_sameTexts_p43
    refine iter_go ?_
    unfold law18_sameTexts_p43b
    simp only
    rw [bif_dec (by omega), bif_dec (by omega), Int.toNat_natCast, List.getElem?_eq_getElem hi]
    simp only [Option.bind_some]
    rw [bif_dec (by omega)]
    simp only [Option.bind_some, beq_self_eq_true, Bool.not_true, cond_false, e1]
theorem texts_eq {L : List By} (hL : L.length ≤ 1048576) : law18_sameTexts L L = some true := by
  unfold law18_sameTexts
  rw [show ((L.length : Int) != (L.length : Int)) = false by simp]
  simp only [cond_false]
  rw [show law18_sameTexts_p43 (L, L, (L.length : Int), 0) = some (.inl ()) from texts_loop hL L.length 0 (by omega)]
  rfl
/-! ### What was answered is written over -/
theorem spoil_lines (a b : By) {n : Nat} (hn : n ≤ 1048576) : ∀ k i (M : List By), M.length = n → i + k = n → law18_FtpOwn_p87 (a, b, (n : Int), (i : Int), M) = some (a, b) := by
  intro k
  induction k with
  | zero =>
    intro i M h1 h2
    unfold law18_FtpOwn_p87
    refine iter_end ?_
    unfold law18_FtpOwn_p87b
    rw [bif_ndec (by simp only; omega)]
  | succ k ih =>
    intro i M h1 h2
    have hi : i < M.length := by omega
    have e1 : IntKind.i64.wrap ((i : Int) + 1) = ((i + 1 : Nat) : Int) := by rw [wrap_i64 (by omega) (by omega)]; omega
    unfold law18_FtpOwn_p87
    refine (iter_go (s' := (a, b, (n : Int), ((i + 1 : Nat) : Int), M.set i [])) ?_).trans (ih (i + 1) _ (by simp [h1]) (by omega))
    unfold law18_FtpOwn_p87b
    simp only
    rw [bif_dec (by omega), bif_dec (by omega), bif_dec (by omega), Int.toNat_natCast, List.getElem?_eq_getElem hi]
    simp only [Option.bind_some]
    rw [e1]
theorem spoil_asks (a b : By) {n : Nat} (hn : n ≤ 1048576) : ∀ k i (M : List AskT), M.length = n → i + k = n → law18_FtpOwn_p351 (a, b, (n : Int), (i : Int), M) = some (a, b) := by
  intro k
  induction k with
  | zero =>
    intro i M h1 h2
    unfold law18_FtpOwn_p351
    refine iter_end ?_
    unfold law18_FtpOwn_p351b
    rw [bif_ndec (by simp only; omega)]
  | succ k ih =>
    intro i M h1 h2
    have hi : i < M.length := by omega
    have e1 : IntKind.i64.wrap ((i : Int) + 1) = ((i + 1 : Nat) : Int) := by rw [wrap_i64 (by omega) (by omega)]; omega
    unfold law18_FtpOwn_p351
    refine (iter_go (s' := (a, b, (n : Int), ((i + 1 : Nat) : Int), M.set i (0, (0, 0, 0), 0))) ?_).trans (ih (i + 1) _ (by simp [h1]) (by omega))
    unfold law18_FtpOwn_p351b
    simp only
    rw [bif_dec (by omega), bif_dec (by omega), bif_dec (by omega), Int.toNat_natCast, List.getElem?_eq_getElem hi]
    simp only [Option.bind_some]
    rw [e1]
theorem ftpOwn_ok (s : By) (h : okT (.sl .u8) s ∧ bulkT (.sl .u8) s ≤ 1048576) : law18_FtpOwn s = some true := by
  have hs := bulk_bytes h.2
  have hl := lns_len s.length s
  unfold law18_FtpOwn
  rw [lines_eq hs]
  simp only [Option.bind_some]
  rw [show ((0 : Int)) = ((0 : Nat) : Int) from rfl, spoil_lines s s (by omega) (lnsF s.length s).length 0 _ rfl (by omega)]
  simp only [Option.bind_some]
  rw [ftp_Asks_eq 4 _ hs]
  have ha : (asksQ 4 ((0 : Nat) : Int) ((lnsF s.length s).take 8)).length ≤ 1048576 := by
    unfold asksQ
    refine Nat.le_trans (List.length_filterMap_le _ _) ?_
    rw [List.length_take]; omega
  simp only [Option.bind_some]
  rw [spoil_asks s s ha _ 0 _ rfl (Nat.zero_add _)]
  simp only [Option.bind_some]
  rw [show (s == s) = true by simp, cond_true, lines_eq hs, ref_lines_eq hs]
  simp only [Option.bind_some]
  rw [texts_eq (by omega)]
  simp only [Option.bind_some, cond_true]
  rw [ftp_Asks_eq 4 _ hs, ref_Asks_eq 4 _ hs]
  simp only [Option.bind_some]
  rw [same_self ha]
  rfl
end Go.Proofs.YtpkhlncohbakkaaGreatDoor.Jv
