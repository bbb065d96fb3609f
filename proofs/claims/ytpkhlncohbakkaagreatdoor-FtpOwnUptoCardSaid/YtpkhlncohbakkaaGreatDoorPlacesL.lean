/- FtpPlaces, plainly: what any line of either side says is the reference's; conditions: none. -/
import Derived.Test.YtpkhlncohbakkaaGreatDoorInner18
namespace Go.Proofs.YtpkhlncohbakkaaGreatDoor.Jv
open Go
set_option linter.unusedSectionVars false
set_option linter.unusedVariables false
set_option linter.unusedSimpArgs false
theorem upper_step {l : By} {i : Nat} (hi : i < l.length) (hl : l.length ≤ 1048576) : ref18_Upper_p43b ((i : Int), l) = some (.inl (((i + 1 : Nat) : Int), l.set i (upB l[i]))) := by
  have e1 : IntKind.i64.wrap ((i : Int) + 1) = ((i + 1 : Nat) : Int) := by rw [wrap_i64 (by omega) (by omega)]; omega
  unfold ref18_Upper_p43b
  simp only
  have h0 : (0 : Int) ≤ (i : Int) := by omega
  have h1 : (i : Int) < (l.length : Int) := by omega
  simp only [decide_eq_true h0, decide_eq_true h1, cond_true, Int.toNat_natCast, List.getElem?_eq_getElem hi, Option.bind_some, e1]
  unfold upB
  by_cases a1 : 97 ≤ l[i].toNat
  · rw [bif_dec (by omega)]
    by_cases a2 : l[i].toNat ≤ 122
    · rw [bif_dec (by omega), if_pos ⟨a1, a2⟩]
      have e2 : UInt8.ofNat (IntKind.u8.wrap ((l[i].toNat : Int) - 32)).toNat = l[i] - 32 := by
        rw [wrap_u8 (by omega) (by omega)]
        refine UInt8.toNat_inj.1 ?_
        have h32 : (32 : UInt8).toNat = 32 := rfl
        rw [UInt8.toNat_sub_of_le _ _ (by rw [UInt8.le_iff_toNat_le]; omega), UInt8.toNat_ofNat']
        omega
      rw [e2]
    · rw [bif_ndec (by omega), if_neg (fun h => a2 h.2)]
      simp
  · rw [bif_ndec (by omega), if_neg (fun h => a1 h.1)]
    simp
theorem upper_loop {s : By} (hs : s.length ≤ 1048576) : ∀ k i, i + k = s.length → ref18_Upper_p43 ((i : Int), (s.take i).map upB ++ s.drop i) = some (s.map upB) := by
  intro k
  induction k with
  | zero =>
    intro i h
    unfold ref18_Upper_p43
    refine iter_end ?_
    have hl : ((s.take i).map upB ++ s.drop i).length = s.length := by simp; omega
    unfold ref18_Upper_p43b
    simp only
    rw [hl, bif_ndec (by omega), List.take_of_length_le (by omega), List.drop_eq_nil_of_le (by omega), List.append_nil]
  | succ k ih =>
    intro i h
    have hi : i < s.length := by omega
    have hl : ((s.take i).map upB ++ s.drop i).length = s.length := by simp; omega
    unfold ref18_Upper_p43
    refine (iter_go (upper_step (l := (s.take i).map upB ++ s.drop i) (i := i) (by omega) (by omega))).trans ?_
    have hset : ((s.take i).map upB ++ s.drop i).set i (upB ((s.take i).map upB ++ s.drop i)[i]) = (s.take (i + 1)).map upB ++ s.drop (i + 1) := by
      have hg : ((s.take i).map upB ++ s.drop i)[i]'(by omega) = s[i] := by
        rw [List.getElem_append_right (by rw [List.length_map, List.length_take]; exact Nat.min_le_left _ _)]
        simp [show min i s.length = i by omega]
      have hz : i - ((s.take i).map upB).length = 0 := by rw [List.length_map, List.length_take]; omega
      rw [hg, List.set_append_right _ _ (by rw [List.length_map, List.length_take]; exact Nat.min_le_left _ _), List.take_succ_eq_append_getElem hi, List.map_append, List.append_assoc, hz]
      congr 1
      rw [List.drop_eq_getElem_cons hi, List.set_cons_zero]
      rfl
    rw [hset]
    exact ih (i + 1) (by omega)
theorem upper_eq {s : By} (hs : s.length ≤ 1048576) : ref18_Upper s = some (s.map upB) := by
  unfold ref18_Upper
  have := upper_loop hs s.length 0 (by omega)
  rw [List.take_zero, List.drop_zero, List.map_nil, List.nil_append] at this
  rw [show ((0 : Int)) = ((0 : Nat) : Int) from rfl, this]
  rfl
/-- What a line says. -/
def placeQ (fam side : Int) (s : By) : AskT × Bool :=
  if (fam = 4 ∨ fam = 6) ∧ s.length ≤ 512 ∧ 5 ≤ s.length then
    (if side = 0 then
      (if (s.take 5).map upB = wPort then (if fam = 4 then sixQ (s.drop 5) else errQ)
       else if (s.take 5).map upB = wEprt then eprtQ fam (s.drop 5) else errQ)
     else if side = 1 then
      (if s.take 4 = [50, 50, 55, 32] then (if fam = 4 then sixQ ((innerQ s).getD []) else errQ)
       else if s.take 4 = [50, 50, 57, 32] then extQ ((innerQ s).getD []) else errQ)
     else errQ)
  else errQ
theorem drop5 {s : By} : (s.drop 5).take (s.length - 5) = s.drop 5 := List.take_of_length_le (by simp)
theorem ftp_Place_eq (fam side : Int) {s : By} (hs : s.length ≤ 1048576) : ftp_Place fam side s = some (placeQ fam side s) := by
  unfold ftp_Place
  have hp5 : ftp_Place_p5 (fam, side, s, 0, 0, 0, 0, 0) = some (if (fam = 4 ∨ fam = 6) ∧ s.length ≤ 512 ∧ 5 ≤ s.length then .inl (fam, side, s, 0, 0, 0, 0, 0) else .inr errQ) := by
    unfold ftp_Place_p5
    simp only
    have tl : fam = 4 ∨ fam = 6 → (bif (decide ((s.length : Int) > 512)) then (some (.inr ((0, (0, 0, 0), 0), false))) else (bif (decide ((s.length : Int) < 5)) then (some (.inr ((0, (0, 0, 0), 0), false))) else (some (.inl (fam, side, s, 0, 0, 0, 0, 0)))) : Option ((Int × Int × List UInt8 × Int × Int × Int × Int × Int) ⊕ (AskT × Bool))) = some (if (fam = 4 ∨ fam = 6) ∧ s.length ≤ 512 ∧ 5 ≤ s.length then .inl (fam, side, s, 0, 0, 0, 0, 0) else .inr errQ) := by
      intro hf
      by_cases a1 : (s.length : Int) > 512
      · rw [bif_dec a1, if_neg (fun h => by omega)]
      · rw [bif_ndec a1]
        by_cases a2 : (s.length : Int) < 5
        · rw [bif_dec a2, if_neg (fun h => by omega)]
        · rw [bif_ndec a2, if_pos ⟨hf, by omega, by omega⟩]
    by_cases h4 : fam = 4
    · rw [show (fam != 4) = false by rw [h4]; rfl, cond_false]
      exact tl (.inl h4)
    · rw [show (fam != 4) = true by rw [bne_iff_ne]; exact h4, cond_true]
      by_cases h6 : fam = 6
      · rw [show (fam != 6) = false by rw [h6]; rfl, cond_false]
        exact tl (.inr h6)
      · rw [show (fam != 6) = true by rw [bne_iff_ne]; exact h6, if_neg (fun h => h.1.elim h4 h6)]
        rfl
  rw [hp5]
  unfold placeQ
  by_cases hc : (fam = 4 ∨ fam = 6) ∧ s.length ≤ 512 ∧ 5 ≤ s.length
  · rw [if_pos hc, if_pos hc]
    obtain ⟨hf, h512, h5⟩ := hc
    simp only [Option.bind_some, Sum.elim_inl]
    by_cases s0 : side = 0
    · rw [show (side == 0) = true by rw [s0]; rfl, cond_true, bif_dec (show (5 : Int) ≤ (s.length : Int) by omega), caps_eq (by simp; omega), if_pos s0]
      simp only [Option.bind_some]
      rw [map_eq (K := [80, 79, 82, 84, 32]) (by decide), map_eq (K := [69, 80, 82, 84, 32]) (by decide)]
      by_cases hP : (s.take 5).map upB = wPort
      · rw [show ((s.take 5).map upB == ([80, 79, 82, 84, 32] : By)) = true from beq_iff_eq.2 hP, cond_true, if_pos hP]
        by_cases f4 : fam = 4
        · rw [show (fam == 4) = true by rw [f4]; rfl, cond_true, bif_dec (show (5 : Int) ≤ (s.length : Int) by omega), drop5, ftp_six_eq (by simp; omega), if_pos f4]
          rfl
        · rw [show (fam == 4) = false by rw [beq_eq_false_iff_ne]; exact f4, if_neg f4]
          rfl
      · rw [show ((s.take 5).map upB == ([80, 79, 82, 84, 32] : By)) = false from beq_eq_false_iff_ne.2 hP, cond_false, if_neg hP]
        by_cases hE : (s.take 5).map upB = wEprt
        · rw [show ((s.take 5).map upB == ([69, 80, 82, 84, 32] : By)) = true from beq_iff_eq.2 hE, cond_true, bif_dec (show (5 : Int) ≤ (s.length : Int) by omega), drop5, ftp_eprt_eq hf (by simp; omega), if_pos hE]
          rfl
        · rw [show ((s.take 5).map upB == ([69, 80, 82, 84, 32] : By)) = false from beq_eq_false_iff_ne.2 hE, if_neg hE]
          rfl
    · rw [show (side == 0) = false by rw [beq_eq_false_iff_ne]; exact s0, cond_false, if_neg s0]
      have hil : ((innerQ s).getD []).length ≤ 1048576 := by
        cases hq : innerQ s with
        | none => simp
        | some t => have := innerQ_len hq; simp only [Option.getD_some]; omega
      by_cases s1 : side = 1
      · rw [show (side == 1) = true by rw [s1]; rfl, cond_true, bif_dec (show (4 : Int) ≤ (s.length : Int) by omega), if_pos s1]
        by_cases hP : s.take 4 = [50, 50, 55, 32]
        · rw [show (s.take 4 == ([50, 50, 55, 32] : By)) = true from beq_iff_eq.2 hP, cond_true, if_pos hP]
          by_cases f4 : fam = 4
          · rw [show (fam == 4) = true by rw [f4]; rfl, cond_true, ftp_inner_eq hs, if_pos f4]
            simp only [Option.bind_some]
            rw [ftp_six_eq hil]
            rfl
          · rw [show (fam == 4) = false by rw [beq_eq_false_iff_ne]; exact f4, if_neg f4]
            rfl
        · rw [show (s.take 4 == ([50, 50, 55, 32] : By)) = false from beq_eq_false_iff_ne.2 hP, cond_false, if_neg hP]
          by_cases hE : s.take 4 = [50, 50, 57, 32]
          · rw [show (s.take 4 == ([50, 50, 57, 32] : By)) = true from beq_iff_eq.2 hE, cond_true, ftp_inner_eq hs, if_pos hE]
            simp only [Option.bind_some]
            rw [ftp_extended_eq hil]
            rfl
          · rw [show (s.take 4 == ([50, 50, 57, 32] : By)) = false from beq_eq_false_iff_ne.2 hE, if_neg hE]
            rfl
      · rw [show (side == 1) = false by rw [beq_eq_false_iff_ne]; exact s1, if_neg s1]
        rfl
  · rw [if_neg hc, if_neg hc]
    rfl
/-! ### The reference's -/
theorem ref_p4071 {s : By} (hs : s.length ≤ 1048576) (h5 : 5 ≤ s.length) (side a0 a1 a2 a3 a4 : Int) : ref18_Place_p4071 (side, s, a0, a1, a2, a3, a4) = some (if side = 1 ∧ s.take 4 = [50, 50, 57, 32] then .inr (extQ ((innerQ s).getD [])) else .inl (a0, a1, a2, a3, a4)) := by
  unfold ref18_Place_p4071
  simp only
  by_cases s1 : side = 1
  · rw [show (side == 1) = true by rw [s1]; rfl, cond_true, bif_dec (show (4 : Int) ≤ (s.length : Int) by omega)]
    by_cases hE : s.take 4 = [50, 50, 57, 32]
    · rw [show (s.take 4 == ([50, 50, 57, 32] : By)) = true from beq_iff_eq.2 hE, cond_true, ref_inner_eq hs, if_pos ⟨s1, hE⟩]
      simp only [Option.bind_some]
      have hil : ((innerQ s).getD []).length ≤ 1048576 := by
        cases hq : innerQ s with
        | none => simp
        | some t => have := innerQ_len hq; simp only [Option.getD_some]; omega
      have hno : (innerQ s).isSome = false → extQ ((innerQ s).getD []) = errQ := fun h => by
        cases hq : innerQ s with
        | none => rfl
        | some t => rw [hq] at h; cases h
      generalize (innerQ s).isSome = ok at hno
      generalize (innerQ s).getD [] = t at hil hno
      rcases ref_ext_eq hil ok a0 a1 a2 a3 a4 with ⟨h1, h2⟩ | ⟨h1, h2, h3, h4⟩
      · rw [h1, h2.elim hno id]
        rfl
      · rw [h1, h4]
        simp only [Option.bind_some, Sum.elim_inl]
        have w : IntKind.i64.wrap ((t.length : Int) - 1) = ((t.length - 1 : Nat) : Int) := by rw [wrap_i64 (by omega) (by omega)]; omega
        rw [w, bif_dec (show (3 : Int) ≤ ((t.length - 1 : Nat) : Int) by omega), bif_dec (show ((t.length - 1 : Nat) : Int) ≤ (t.length : Int) by omega), Int.toNat_natCast, show t.length - 1 - 3 = t.length - 4 by omega]
        obtain ⟨z, hz, hv⟩ := ref_port_tells (s := (t.drop 3).take (t.length - 4)) (by simp; omega)
        rw [hz]
        unfold midOf
        simp only [Option.bind_some]
        cases hm : portM ((t.drop 3).take (t.length - 4)) with
        | none => rfl
        | some n =>
          have hn := hv n hm
          subst hn
          rfl
    · rw [show (s.take 4 == ([50, 50, 57, 32] : By)) = false from beq_eq_false_iff_ne.2 hE, if_neg (fun h => hE h.2)]
      rfl
  · rw [show (side == 1) = false by rw [beq_eq_false_iff_ne]; exact s1, if_neg (fun h => s1 h.1)]
    rfl
theorem sixQ_nil : sixQ [] = errQ := rfl
theorem ref_p999 {s : By} (hs : s.length ≤ 1048576) (h5 : 5 ≤ s.length) (fam side a0 a1 a2 a3 a4 : Int) : ref18_Place_p999 (fam, side, s, a0, a1, a2, a3, a4) = some (if side = 1 ∧ s.take 4 = [50, 50, 55, 32] ∧ fam = 4 then .inr (sixQ ((innerQ s).getD [])) else if side = 1 ∧ s.take 4 = [50, 50, 57, 32] then .inr (extQ ((innerQ s).getD [])) else .inl (a0, a1, a2, a3, a4)) := by
  unfold ref18_Place_p999
  simp only
  rw [ref_p4071 hs h5]
  generalize (if side = 1 ∧ s.take 4 = [50, 50, 57, 32] then (.inr (extQ ((innerQ s).getD [])) : (Int × Int × Int × Int × Int) ⊕ (AskT × Bool)) else .inl (a0, a1, a2, a3, a4)) = X
  have tl : ((some X).bind fun (o3 : (Int × Int × Int × Int × Int) ⊕ (AskT × Bool)) => Sum.elim (fun (y4 : Int × Int × Int × Int × Int) => (some (.inl (y4.1, y4.2.1, y4.2.2.1, y4.2.2.2.1, y4.2.2.2.2)) : Option ((Int × Int × Int × Int × Int) ⊕ (AskT × Bool)))) (fun (o5 : AskT × Bool) => some (.inr ((o5.1.1, (o5.1.2.1.1, o5.1.2.1.2.1, o5.1.2.1.2.2), o5.1.2.2), o5.2))) o3) = some X := by
    cases X <;> rfl
  by_cases s1 : side = 1
  · rw [show (side == 1) = true by rw [s1]; rfl, cond_true, bif_dec (show (4 : Int) ≤ (s.length : Int) by omega)]
    by_cases hP : s.take 4 = [50, 50, 55, 32]
    · rw [show (s.take 4 == ([50, 50, 55, 32] : By)) = true from beq_iff_eq.2 hP, cond_true]
      by_cases f4 : fam = 4
      · rw [show (fam == 4) = true by rw [f4]; rfl, cond_true, ref_inner_eq hs, if_pos ⟨s1, hP, f4⟩]
        simp only [Option.bind_some]
        cases hq : innerQ s with
        | none => rfl
        | some t =>
          have := innerQ_len hq
          simp only [Option.isSome_some, Bool.not_true, cond_false, Option.getD_some]
          rw [ref_six_eq' (by omega)]
          rfl
      · rw [show (fam == 4) = false by rw [beq_eq_false_iff_ne]; exact f4, cond_false, if_neg (fun h => f4 h.2.2)]
        exact tl
    · rw [show (s.take 4 == ([50, 50, 55, 32] : By)) = false from beq_eq_false_iff_ne.2 hP, cond_false, if_neg (fun h => hP h.2.1)]
      exact tl
  · rw [show (side == 1) = false by rw [beq_eq_false_iff_ne]; exact s1, cond_false, if_neg (fun h => s1 h.1)]
    exact tl
theorem ref_Place_eq (fam side : Int) {s : By} (hs : s.length ≤ 1048576) : ref18_Place fam side s = some (placeQ fam side s) := by
  unfold ref18_Place
  have hp5 : ref18_Place_p5 (fam, side, s, 0, 0, 0, 0, 0) = some (if (fam = 4 ∨ fam = 6) ∧ s.length ≤ 512 ∧ 5 ≤ s.length then .inl (fam, side, s, 0, 0, 0, 0, 0) else .inr errQ) := by
    unfold ref18_Place_p5
    simp only
    have tl : fam = 4 ∨ fam = 6 → (bif (decide ((s.length : Int) > 512)) then (some (.inr ((0, (0, 0, 0), 0), false))) else (bif (decide ((s.length : Int) < 5)) then (some (.inr ((0, (0, 0, 0), 0), false))) else (some (.inl (fam, side, s, 0, 0, 0, 0, 0)))) : Option ((Int × Int × List UInt8 × Int × Int × Int × Int × Int) ⊕ (AskT × Bool))) = some (if (fam = 4 ∨ fam = 6) ∧ s.length ≤ 512 ∧ 5 ≤ s.length then .inl (fam, side, s, 0, 0, 0, 0, 0) else .inr errQ) := by
      intro hf
      by_cases a1 : (s.length : Int) > 512
      · rw [bif_dec a1, if_neg (fun h => by omega)]
      · rw [bif_ndec a1]
        by_cases a2 : (s.length : Int) < 5
        · rw [bif_dec a2, if_neg (fun h => by omega)]
        · rw [bif_ndec a2, if_pos ⟨hf, by omega, by omega⟩]
    by_cases h4 : fam = 4
    · rw [show (fam != 4) = false by rw [h4]; rfl, cond_false]
      exact tl (.inl h4)
    · rw [show (fam != 4) = true by rw [bne_iff_ne]; exact h4, cond_true]
      by_cases h6 : fam = 6
      · rw [show (fam != 6) = false by rw [h6]; rfl, cond_false]
        exact tl (.inr h6)
      · rw [show (fam != 6) = true by rw [bne_iff_ne]; exact h6, if_neg (fun h => h.1.elim h4 h6)]
        rfl
  rw [hp5]
  unfold placeQ
  by_cases hc : (fam = 4 ∨ fam = 6) ∧ s.length ≤ 512 ∧ 5 ≤ s.length
  · rw [if_pos hc, if_pos hc]
    obtain ⟨hf, h512, h5⟩ := hc
    simp only [Option.bind_some, Sum.elim_inl]
    rw [bif_dec (show (5 : Int) ≤ (s.length : Int) by omega), upper_eq (by simp; omega)]
    simp only [Option.bind_some]
    unfold ref18_Place_p23
    simp only
    unfold ref18_Place_p231
    simp only
    rw [ref_p999 hs h5]
    try simp only [Option.bind_some]
    have tl : ∀ X : (Int × Int × Int × Int × Int) ⊕ (AskT × Bool), (Sum.elim (fun (y4 : Int × Int × Int × Int × Int) => (some (.inl (y4.1, y4.2.1, y4.2.2.1, y4.2.2.2.1, y4.2.2.2.2)) : Option ((Int × Int × Int × Int × Int) ⊕ (AskT × Bool)))) (fun (o5 : AskT × Bool) => some (.inr ((o5.1.1, (o5.1.2.1.1, o5.1.2.1.2.1, o5.1.2.1.2.2), o5.1.2.2), o5.2))) X) = some X := by
      intro X; cases X <;> rfl
    rw [tl]
    try simp only [Option.bind_some]
    by_cases s0 : side = 0
    · rw [show (side == 0) = true by rw [s0]; rfl, if_pos s0]
      simp only [cond_true]
      have hn : (if side = 1 ∧ s.take 4 = [50, 50, 55, 32] ∧ fam = 4 then (.inr (sixQ ((innerQ s).getD [])) : (Int × Int × Int × Int × Int) ⊕ (AskT × Bool)) else if side = 1 ∧ s.take 4 = [50, 50, 57, 32] then .inr (extQ ((innerQ s).getD [])) else .inl (0, 0, 0, 0, 0)) = .inl (0, 0, 0, 0, 0) := by
        rw [if_neg (fun h => by omega), if_neg (fun h => by omega)]
      rw [hn]
      by_cases hP : (s.take 5).map upB = wPort
      · have hE : ((s.take 5).map upB == ([69, 80, 82, 84, 32] : By)) = false := by rw [hP]; rfl
        rw [show ((s.take 5).map upB == ([80, 79, 82, 84, 32] : By)) = true from beq_iff_eq.2 hP, if_pos hP]
        simp only [cond_true]
        by_cases f4 : fam = 4
        · rw [show (fam == 4) = true by rw [f4]; rfl, cond_true, bif_dec (show (5 : Int) ≤ (s.length : Int) by omega), drop5, ref_six_eq' (by simp; omega), if_pos f4]
          rfl
        · rw [show (fam == 4) = false by rw [beq_eq_false_iff_ne]; exact f4, if_neg f4, hE]
          rfl
      · rw [show ((s.take 5).map upB == ([80, 79, 82, 84, 32] : By)) = false from beq_eq_false_iff_ne.2 hP, if_neg hP]
        simp only [cond_false]
        by_cases hE : (s.take 5).map upB = wEprt
        · rw [show ((s.take 5).map upB == ([69, 80, 82, 84, 32] : By)) = true from beq_iff_eq.2 hE, cond_true, bif_dec (show (5 : Int) ≤ (s.length : Int) by omega), drop5, ref_eprt_eq fam (by simp; omega), if_pos hE]
          rfl
        · rw [show ((s.take 5).map upB == ([69, 80, 82, 84, 32] : By)) = false from beq_eq_false_iff_ne.2 hE, if_neg hE]
          rfl
    · rw [show (side == 0) = false by rw [beq_eq_false_iff_ne]; exact s0, if_neg s0]
      simp only [cond_false]
      have tl2 : ∀ X : (Int × Int × Int × Int × Int) ⊕ (AskT × Bool), ((some X).bind fun (o2 : (Int × Int × Int × Int × Int) ⊕ (AskT × Bool)) => Sum.elim (fun (y4 : Int × Int × Int × Int × Int) => (some (.inl (y4.1, y4.2.1, y4.2.2.1, y4.2.2.2.1, y4.2.2.2.2)) : Option ((Int × Int × Int × Int × Int) ⊕ (AskT × Bool)))) (fun (o5 : AskT × Bool) => some (.inr ((o5.1.1, (o5.1.2.1.1, o5.1.2.1.2.1, o5.1.2.1.2.2), o5.1.2.2), o5.2))) o2) = some X := tl
      rw [tl2]
      by_cases s1 : side = 1
      · rw [if_pos s1]
        by_cases hP : s.take 4 = [50, 50, 55, 32]
        · have hE : ¬ (s.take 4 = [50, 50, 57, 32]) := fun e => by rw [hP] at e; cases e
          rw [if_pos hP]
          by_cases f4 : fam = 4
          · rw [if_pos ⟨s1, hP, f4⟩, if_pos f4]; rfl
          · rw [if_neg (fun h => f4 h.2.2), if_neg (fun h => hE h.2), if_neg f4]; rfl
        · rw [if_neg (fun h => hP h.2.1), if_neg hP]
          by_cases hE : s.take 4 = [50, 50, 57, 32]
          · rw [if_pos ⟨s1, hE⟩, if_pos hE]; rfl
          · rw [if_neg (fun h => hE h.2), if_neg hE]; rfl
      · rw [if_neg s1, if_neg (fun h => s1 h.1), if_neg (fun h => s1 h.1)]; rfl
  · rw [if_neg hc, if_neg hc]
    rfl
theorem alive_true : law18_alive = some true := rfl
theorem bulk_str {s : By} (h : bulkT .str s ≤ 1048576) : s.length ≤ 1048576 := by
  have e : bulkT .str s = s.length + 1 := rfl
  omega
theorem ftpPlaces_ok (fam side : Int) (s : By) (_ : okT (.int .i64) fam ∧ bulkT (.int .i64) fam ≤ 1048576) (_ : okT (.int .i64) side ∧ bulkT (.int .i64) side ≤ 1048576) (h : okT .str s ∧ bulkT .str s ≤ 1048576) : law18_FtpPlaces fam side s = some true := by
  unfold law18_FtpPlaces
  have hs := bulk_str h.2
  rw [ftp_Place_eq fam side hs, ref_Place_eq fam side hs]
  simp [alive_true]
end Go.Proofs.YtpkhlncohbakkaaGreatDoor.Jv
