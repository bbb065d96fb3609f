/- FtpCuts, plainly: data cut behind a line say what they say whole; conditions: none. -/
import Derived.Test.YtpkhlncohbakkaaDoorPlace18
namespace Go.Proofs.YtpkhlncohbakkaaDoor.Jv
open Go
set_option linter.unusedSectionVars false
set_option linter.unusedVariables false
set_option linter.unusedSimpArgs false
/-! ### Lines of a cut text -/
theorem occ_take {s : By} {t j : Nat} (h : j + 2 ≤ t) : Lib.occAt (s.take t) crlf j = Lib.occAt s crlf j := by
  unfold Lib.occAt
  rw [Bool.eq_iff_iff, List.isPrefixOf_iff_prefix, List.isPrefixOf_iff_prefix, List.drop_take, List.prefix_take_iff]
  exact ⟨fun h => h.1, fun h1 => ⟨h1, show 2 ≤ t - j by omega⟩⟩
theorem occ_room {s : By} {j : Nat} (h : Lib.occAt s crlf j = true) : j + 2 ≤ s.length := by
  unfold Lib.occAt at h
  have := (List.isPrefixOf_iff_prefix.1 h).length_le
  rw [List.length_drop] at this
  have e : crlf.length = 2 := rfl
  omega
theorem index_take {s : By} {i t : Nat} (h : Lib.index s crlf = (i : Int)) (ht : i + 2 ≤ t) : Lib.index (s.take t) crlf = (i : Int) := by
  rcases Lib.index_spec s crlf with ⟨h1, _⟩ | ⟨i0, h1, h2, h3, h4⟩
  · omega
  · have : i0 = i := by omega
    subst this
    rcases Lib.index_spec (s.take t) crlf with ⟨g1, g2⟩ | ⟨k, g1, g2, g3, g4⟩
    · have h5 := g2 i0 (by rw [List.length_take]; omega)
      rw [occ_take ht, h3] at h5
      cases h5
    · have h6 := occ_room g3
      rw [List.length_take] at h6
      rcases Nat.lt_trichotomy k i0 with q | q | q
      · have := h4 k q
        rw [← occ_take (t := t) (by omega), g3] at this
        cases this
      · rw [g1, q]
      · have := g4 i0 q
        rw [occ_take ht, h3] at this
        cases this
theorem index_nil : Lib.index [] crlf = -1 := rfl
theorem lns_nil (n : Nat) : lnsF n [] = [] := by
  cases n with
  | zero => rfl
  | succ n => rw [lnsF, if_pos index_nil]
theorem lns_fuel : ∀ (n m : Nat) (s : By), s.length ≤ n → s.length ≤ m → lnsF n s = lnsF m s := by
  intro n
  induction n with
  | zero =>
    intro m s h1 h2
    have : s = [] := List.eq_nil_of_length_eq_zero (by omega)
    subst this
    rw [lns_nil, lns_nil]
  | succ n ih =>
    intro m s h1 h2
    cases m with
    | zero =>
      have : s = [] := List.eq_nil_of_length_eq_zero (by omega)
      subst this
      rw [lns_nil, lns_nil]
    | succ m =>
      rw [lnsF, lnsF]
      split
      · rfl
      · rw [ih m _ (by rw [List.length_drop]; omega) (by rw [List.length_drop]; omega)]
def tot (L : List By) : Nat := (L.map fun x => x.length + 2).sum
theorem tot_cons (x : By) (L : List By) : tot (x :: L) = x.length + 2 + tot L := by
  unfold tot
  rw [List.map_cons, List.sum_cons]
theorem lns_cut : ∀ (n : Nat) (s : By) (k : Nat), s.length ≤ n → k ≤ (lnsF n s).length → tot ((lnsF n s).take k) ≤ s.length ∧ lnsF n (s.take (tot ((lnsF n s).take k))) = (lnsF n s).take k ∧ lnsF n (s.drop (tot ((lnsF n s).take k))) = (lnsF n s).drop k := by
  intro n
  induction n with
  | zero =>
    intro s k h1 h2
    have : s = [] := List.eq_nil_of_length_eq_zero (by omega)
    subst this
    have : k = 0 := by simp [lnsF] at h2; exact h2
    subst this
    exact ⟨Nat.le_refl _, rfl, rfl⟩
  | succ n ih =>
    intro s k h1 h2
    rcases Lib.index_spec s crlf with ⟨g1, _⟩ | ⟨i, g1, g2, g3, g4⟩
    · have e : lnsF (n + 1) s = [] := by rw [lnsF, if_pos g1]
      rw [e] at h2 ⊢
      have : k = 0 := by simpa using h2
      subst this
      refine ⟨Nat.zero_le _, ?_, ?_⟩
      · rw [List.take_nil, show tot [] = 0 from rfl, List.take_zero, lns_nil]
      · rw [List.take_nil, show tot [] = 0 from rfl, List.drop_zero, e]
        rfl
    · have e : lnsF (n + 1) s = s.take i :: lnsF n (s.drop (i + 2)) := by
        rw [lnsF, if_neg (by omega), g1, Int.toNat_natCast]
      have hroom := occ_room g3
      cases k with
      | zero =>
        refine ⟨Nat.zero_le _, ?_, ?_⟩
        · rw [List.take_zero, show tot [] = 0 from rfl, List.take_zero, lns_nil]
        · rw [List.take_zero, show tot [] = 0 from rfl, List.drop_zero, List.drop_zero]
      | succ k =>
        rw [e] at h2 ⊢
        rw [List.length_cons] at h2
        obtain ⟨q1, q2, q3⟩ := ih (s.drop (i + 2)) k (by rw [List.length_drop]; omega) (by omega)
        rw [List.take_succ_cons, List.drop_succ_cons, tot_cons, List.length_take, show min i s.length = i by omega]
        generalize ht : tot ((lnsF n (s.drop (i + 2))).take k) = t at q1 q2 q3
        rw [List.length_drop] at q1
        refine ⟨by omega, ?_, ?_⟩
        · rw [lnsF, index_take g1 (by omega), if_neg (by omega), Int.toNat_natCast, List.take_take, show min i (i + 2 + t) = i by omega, List.drop_take, show i + 2 + t - (i + 2) = t by omega, q2]
        · rw [← List.drop_drop, lns_fuel (n + 1) n _ (by rw [List.length_drop, List.length_drop]; omega) (by rw [List.length_drop, List.length_drop]; omega), q3]
/-! ### What lines say -/
noncomputable def placeP (fam side : Int) (s : By) : AskT × Bool := (ftp_Place fam side s).getD errQ
theorem placeP_eq (fam side : Int) {s : By} (hs : s.length ≤ 1048576) : ftp_Place fam side s = some (placeP fam side s) := by
  obtain ⟨r, hr, _⟩ := place_fine fam (side := side) hs
  unfold placeP
  rw [hr]
  rfl
noncomputable def asksP (fam side : Int) (L : List By) : List AskT := L.filterMap fun s => if (placeP fam side s).2 = true then some (placeP fam side s).1 else none
theorem asksP_cons (fam side : Int) (s : By) (L : List By) : asksP fam side (s :: L) = (if (placeP fam side s).2 = true then [(placeP fam side s).1] else []) ++ asksP fam side L := by
  unfold asksP
  rw [List.filterMap_cons]
  split
  · rename_i h
    split at h
    · cases h
    · rename_i h2; rw [if_neg h2]; rfl
  · rename_i q h
    split at h
    · rename_i h2; cases h; rw [if_pos h2]; rfl
    · cases h
theorem fits_ask {n : Nat} (h : n ≤ 1048576) : fits n 40 = true := by
  unfold fits
  rw [decide_eq_true_eq]
  omega
theorem ftp_asks_loop (fam side : Int) {L : List By} (hL : L.length ≤ 1048576) (hx : ∀ x ∈ L, x.length ≤ 1048576) : ∀ k i (acc : List AskT), i + k = 8 → acc.length ≤ i →
    ftp_Asks_p43 (fam, side, L, (L.length : Int), (i : Int), acc) = some (acc ++ asksP fam side ((L.drop i).take k)) := by
  intro k
  induction k with
  | zero =>
    intro i acc h1 h2
    unfold ftp_Asks_p43
    rw [List.take_zero, show asksP fam side [] = [] from rfl, List.append_nil]
    refine iter_end ?_
    unfold ftp_Asks_p43b
    simp only
    by_cases hi : i < L.length
    · rw [bif_dec (by omega), bif_dec (by omega), Int.toNat_natCast, List.getElem?_eq_getElem hi]
      simp only [Option.bind_some]
      rw [show ((i : Int) == 8) = true by rw [beq_iff_eq]; omega]
      rfl
    · rw [bif_ndec (by omega)]
  | succ k ih =>
    intro i acc h1 h2
    unfold ftp_Asks_p43
    by_cases hi : i < L.length
    · have e1 : IntKind.i64.wrap ((i : Int) + 1) = ((i + 1 : Nat) : Int) := by rw [wrap_i64 (by omega) (by omega)]; omega
      rw [List.drop_eq_getElem_cons hi, List.take_succ_cons, asksP_cons]
      have hp := placeP_eq fam side (hx _ (List.getElem_mem hi))
      cases hq : (placeP fam side L[i]).2 with
      | true =>
        refine (iter_go (s' := (fam, side, L, (L.length : Int), ((i + 1 : Nat) : Int), acc ++ [(placeP fam side L[i]).1])) ?_).trans ?_
        · unfold ftp_Asks_p43b
          simp only
          rw [bif_dec (by omega), bif_dec (by omega), Int.toNat_natCast, List.getElem?_eq_getElem hi]
          simp only [Option.bind_some]
          rw [show ((i : Int) == 8) = false by rw [beq_eq_false_iff_ne]; omega, cond_false, hp]
          simp only [Option.bind_some]
          rw [hq, cond_true, fits_ask (by omega), cond_true, e1]
        · rw [if_pos rfl, ← List.append_assoc]
          exact ih (i + 1) _ (by omega) (by simp; omega)
      | false =>
        refine (iter_go (s' := (fam, side, L, (L.length : Int), ((i + 1 : Nat) : Int), acc)) ?_).trans ?_
        · unfold ftp_Asks_p43b
          simp only
          rw [bif_dec (by omega), bif_dec (by omega), Int.toNat_natCast, List.getElem?_eq_getElem hi]
          simp only [Option.bind_some]
          rw [show ((i : Int) == 8) = false by rw [beq_eq_false_iff_ne]; omega, cond_false, hp]
          simp only [Option.bind_some]
          rw [hq, cond_false, e1]
        · rw [if_neg (by simp), List.nil_append]
          exact ih (i + 1) _ (by omega) (by omega)
    · rw [List.drop_eq_nil_of_le (by omega), List.take_nil, show asksP fam side [] = [] from rfl, List.append_nil]
      refine iter_end ?_
      unfold ftp_Asks_p43b
      rw [bif_ndec (by simp only; omega)]
theorem lns_small : ∀ (n : Nat) (s : By), ∀ x ∈ lnsF n s, x.length ≤ s.length := by
  intro n
  induction n with
  | zero => intro s x hx; simp [lnsF] at hx
  | succ n ih =>
    intro s x hx
    unfold lnsF at hx
    split at hx
    · cases hx
    · rcases List.mem_cons.1 hx with rfl | hx
      · rw [List.length_take]; omega
      · have := ih _ x hx
        rw [List.length_drop] at this
        omega
theorem ftp_Asks_eq (fam side : Int) {s : By} (hs : s.length ≤ 1048576) : ftp_Asks fam side s = some (asksP fam side ((lnsF s.length s).take 8)) := by
  unfold ftp_Asks
  rw [lines_eq hs]
  simp only [Option.bind_some]
  have := ftp_asks_loop fam side (L := lnsF s.length s) (Nat.le_trans (lns_len _ _) hs) (fun x hx => Nat.le_trans (lns_small _ _ x hx) hs) 8 0 [] (by omega) (by simp)
  rw [List.drop_zero, List.nil_append] at this
  rw [show ((0 : Int)) = ((0 : Nat) : Int) from rfl, this]
  rfl
theorem same_loop18 {l : List AskT} (hl : l.length ≤ 1048576) : ∀ k i, i + k = l.length → ref18_Same_p43 (l, l, (i : Int)) = some (.inl ()) := by
  intro k
  induction k with
  | zero =>
    intro i h
    unfold ref18_Same_p43
    refine iter_end ?_
    unfold ref18_Same_p43b
    rw [bif_ndec (by simp only; omega)]
  | succ k ih =>
    intro i h
    have hi : i < l.length := by omega
    have e1 : IntKind.i64.wrap ((i : Int) + 1) = ((i + 1 : Nat) : Int) := by rw [wrap_i64 (by omega) (by omega)]; omega
    unfold ref18_Same_p43
    refine (iter_go (s' := (l, l, ((i + 1 : Nat) : Int))) ?_).trans (ih (i + 1) (by omega))
    unfold ref18_Same_p43b
    simp only
    rw [bif_dec (by omega), bif_dec (by omega), Int.toNat_natCast, List.getElem?_eq_getElem hi]
    simp only [Option.bind_some]
    rw [bif_dec (by omega), e1]
    simp
theorem same_self {l : List AskT} (hl : l.length ≤ 1048576) : ref18_Same l l = some true := by
  unfold ref18_Same
  rw [show ((l.length : Int) != (l.length : Int)) = false by simp, cond_false, show ((0 : Int)) = ((0 : Nat) : Int) from rfl, same_loop18 hl l.length 0 (by omega)]
  rfl
/-! ### The law -/
theorem sum_loop {d : By} {L : List By} (hL : L.length ≤ 8) (hx : ∀ x ∈ L, x.length ≤ 1048576) (a b : Int) : ∀ k i (n : Nat), i + k = L.length → n ≤ i * 1048578 →
    law18_FtpCuts_p351 (d, (n : Int), L, (L.length : Int), (i : Int), a, b) = some (d, ((n + tot (L.drop i) : Nat) : Int), a, b) := by
  intro k
  induction k with
  | zero =>
    intro i n h1 h2
    unfold law18_FtpCuts_p351
    rw [List.drop_eq_nil_of_le (by omega), show tot [] = 0 from rfl]
    refine iter_end ?_
    unfold law18_FtpCuts_p351b
    rw [bif_ndec (by simp only; omega)]
    rfl
  | succ k ih =>
    intro i n h1 h2
    have hi : i < L.length := by omega
    have hxi := hx _ (List.getElem_mem hi)
    have e1 : IntKind.i64.wrap ((i : Int) + 1) = ((i + 1 : Nat) : Int) := by rw [wrap_i64 (by omega) (by omega)]; omega
    have e2 : IntKind.i64.wrap ((n : Int) + IntKind.i64.wrap ((L[i].length : Int) + 2)) = ((n + (L[i].length + 2) : Nat) : Int) := by
      rw [wrap_i64 (x := (L[i].length : Int) + 2) (by omega) (by omega), wrap_i64 (by omega) (by omega)]; omega
    rw [List.drop_eq_getElem_cons hi, tot_cons]
    unfold law18_FtpCuts_p351
    refine (iter_go (s' := (d, ((n + (L[i].length + 2) : Nat) : Int), L, (L.length : Int), ((i + 1 : Nat) : Int), a, b)) ?_).trans ?_
    · unfold law18_FtpCuts_p351b
      simp only
      rw [bif_dec (by omega), bif_dec (by omega), Int.toNat_natCast, List.getElem?_eq_getElem hi]
      simp only [Option.bind_some]
      rw [e1, e2]
    · have := ih (i + 1) (n + (L[i].length + 2)) (by omega) (by omega)
      rw [show n + (L[i].length + 2) + tot (L.drop (i + 1)) = n + (L[i].length + 2 + tot (L.drop (i + 1))) by omega] at this
      exact this
theorem rest_in {a l : Int} (h : 0 < l) (h8 : l ≤ 8) : ∃ c : Nat, Int.tmod (IntKind.i64.wrap (Int.tmod a l + l)) l = (c : Int) ∧ (c : Int) < l := by
  have h1 := Int.tmod_lt_of_pos a h
  have h2 : -l < Int.tmod a l := Int.lt_tmod_of_pos a h
  rw [wrap_i64 (by omega) (by omega)]
  have h3 := Int.tmod_lt_of_pos (Int.tmod a l + l) h
  have h4 : 0 ≤ Int.tmod (Int.tmod a l + l) l := Int.tmod_nonneg _ (by omega)
  exact ⟨(Int.tmod (Int.tmod a l + l) l).toNat, by omega, by omega⟩
theorem ftpCuts_ok (y0 : Int × Int) (y1 : By) (y2 : Int) (k0 : okT (.pair (.int .i64) (.int .i64)) y0 ∧ bulkT (.pair (.int .i64) (.int .i64)) y0 ≤ 1048576) (k1 : okT (.sl .u8) y1 ∧ bulkT (.sl .u8) y1 ≤ 1048576) (k2 : okT (.int .i64) y2 ∧ bulkT (.int .i64) y2 ≤ 1048576) : law18_FtpCuts y0 y1 y2 = some true := by
  have hs := bulk_bytes k1.2
  have hal : law18_alive = some true := rfl
  unfold law18_FtpCuts law18_FtpCuts_p11
  rw [lines_eq hs, hal]
  simp only [Option.bind_some]
  have hxs : ∀ x ∈ lnsF y1.length y1, x.length ≤ 1048576 := fun x hx => Nat.le_trans (lns_small _ _ x hx) hs
  by_cases h0 : (lnsF y1.length y1).length = 0
  · rw [show (((lnsF y1.length y1).length : Int) == 0) = true by rw [h0]; rfl]
    rfl
  · rw [show (((lnsF y1.length y1).length : Int) == 0) = false by rw [beq_eq_false_iff_ne]; omega, cond_false]
    by_cases h8 : ((lnsF y1.length y1).length : Int) > 8
    · rw [bif_dec h8]
      rfl
    · rw [bif_ndec h8]
      simp only [Option.bind_some, Sum.elim_inl]
      rw [show (((lnsF y1.length y1).length : Int) != 0) = true by rw [bne_iff_ne]; omega]
      simp only [cond_true]
      obtain ⟨c, hc, hcl⟩ := rest_in (a := y2) (l := ((lnsF y1.length y1).length : Int)) (by omega) (by omega)
      rw [hc, show IntKind.i64.wrap ((c : Int) + 1) = ((c + 1 : Nat) : Int) by rw [wrap_i64 (by omega) (by omega)]; omega, Int.toNat_natCast, Nat.sub_zero]
      rw [bif_dec (show (0 : Int) ≤ ((c + 1 : Nat) : Int) by omega), bif_dec (show ((c + 1 : Nat) : Int) ≤ ((lnsF y1.length y1).length : Int) by omega)]
      obtain ⟨q1, q2, q3⟩ := lns_cut y1.length y1 (c + 1) (Nat.le_refl _) (by omega)
      have hlen := List.length_take (i := c + 1) (l := lnsF y1.length y1)
      have hsum := sum_loop (d := y1) (L := (lnsF y1.length y1).take (c + 1)) (by omega) (fun x hx => hxs x (List.mem_of_mem_take hx)) y0.1 y0.2 ((lnsF y1.length y1).take (c + 1)).length 0 0 (by omega) (by omega)
      rw [List.drop_zero, Nat.zero_add] at hsum
      rw [show ((0 : Int)) = ((0 : Nat) : Int) from rfl, hsum]
      generalize tot ((lnsF y1.length y1).take (c + 1)) = n at q1 q2 q3
      simp only [Option.bind_some]
      rw [bif_ndec (show ¬ ((n : Int) > (y1.length : Int)) by omega)]
      simp only [decide_eq_true (show (((0 : Nat) : Int) ≤ (n : Int)) by omega), decide_eq_true (show ((n : Int) ≤ (y1.length : Int)) by omega), cond_true, Int.toNat_natCast, Nat.sub_zero]
      have hd : (y1.drop n).take (y1.length - n) = y1.drop n := List.take_of_length_le (by rw [List.length_drop]; exact Nat.le_refl _)
      rw [hd, ftp_Asks_eq y0.1 y0.2 (s := y1.take n) (by rw [List.length_take]; omega), ftp_Asks_eq y0.1 y0.2 (s := y1.drop n) (by rw [List.length_drop]; omega), ftp_Asks_eq y0.1 y0.2 hs]
      simp only [Option.bind_some]
      have f1 : lnsF (y1.take n).length (y1.take n) = (lnsF y1.length y1).take (c + 1) := (lns_fuel _ y1.length _ (Nat.le_refl _) (by rw [List.length_take]; omega)).trans q2
      have f2 : lnsF (y1.drop n).length (y1.drop n) = (lnsF y1.length y1).drop (c + 1) := (lns_fuel _ y1.length _ (Nat.le_refl _) (by rw [List.length_drop]; omega)).trans q3
      rw [f1, f2, List.take_of_length_le (i := 8) (l := (lnsF y1.length y1).take (c + 1)) (by omega), List.take_of_length_le (i := 8) (l := (lnsF y1.length y1).drop (c + 1)) (by rw [List.length_drop]; omega), List.take_of_length_le (i := 8) (l := lnsF y1.length y1) (by omega)]
      have happ : asksP y0.1 y0.2 ((lnsF y1.length y1).take (c + 1)) ++ asksP y0.1 y0.2 ((lnsF y1.length y1).drop (c + 1)) = asksP y0.1 y0.2 (lnsF y1.length y1) := by
        unfold asksP
        rw [← List.filterMap_append, List.take_append_drop]
      have hal8 : ∀ L : List By, (asksP y0.1 y0.2 L).length ≤ L.length := fun L => by unfold asksP; exact List.length_filterMap_le _ _
      have b1 := hal8 ((lnsF y1.length y1).take (c + 1))
      have b2 := hal8 ((lnsF y1.length y1).drop (c + 1))
      have b3 := hal8 (lnsF y1.length y1)
      rw [List.length_drop] at b2
      rw [fits_ask (by omega), fits_ask (by omega), happ, same_self (by omega)]
      rfl
end Go.Proofs.YtpkhlncohbakkaaDoor.Jv
