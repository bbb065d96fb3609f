/- Six numbers, by both; conditions: none. -/
import Derived.Test.YtpkhlncohbakkaaGreatDoorPlace18
namespace Go.Proofs.YtpkhlncohbakkaaGreatDoor.Jv
open Go
set_option linter.unusedSectionVars false
set_option linter.unusedVariables false
set_option linter.unusedSimpArgs false
/-- The place of six numbers. -/
def sixB (b : By) : AskT × Bool := if (b.getD 4 0).toNat = 0 ∧ (b.getD 5 0).toNat = 0 then errQ else ((6, (fromA (b.take 4)).1, ((2 ^ 8 * (b.getD 4 0).toNat + (b.getD 5 0).toNat : Nat) : Int)), true)
def sixQ (s : By) : AskT × Bool := if (spl 44 s).length = 6 then (match d4M (spl 44 s) with | some b => sixB b | none => errQ) else errQ
theorem addr6_parts {L : List By} (hL : L.length ≤ 1048577) (hx : ∀ x ∈ L, x.length ≤ 1048576) : ∀ k i (acc : By), i + k = L.length → acc.length = i → i ≤ 6 →
    ftp_six_p43 (L, (L.length : Int), (i : Int), 0, 0, 0, 0, 0, acc) = some (match d4M (L.drop i) with | some r => if 6 < L.length then .inr errQ else .inl (0, 0, 0, 0, 0, acc ++ r) | none => .inr errQ) := by
  intro k
  induction k with
  | zero =>
    intro i acc h1 h2 h3
    unfold ftp_six_p43
    refine iter_end ?_
    unfold ftp_six_p43b
    rw [bif_ndec (by simp only; omega), List.drop_eq_nil_of_le (by omega)]
    simp only [d4M, List.append_nil]
    rw [if_neg (by omega)]
  | succ k ih =>
    intro i acc h1 h2 h3
    have hi : i < L.length := by omega
    have e1 : IntKind.i64.wrap ((i : Int) + 1) = ((i + 1 : Nat) : Int) := by rw [wrap_i64 (by omega) (by omega)]; omega
    obtain ⟨x, hg, hv⟩ := ftp_num (hx _ (List.getElem_mem hi)) (m := 255) (by omega)
    have hg' : ftp_number L[i] 255 = _ := hg
    rw [List.drop_eq_getElem_cons hi, d4M]
    unfold ftp_six_p43
    cases hm : decM 255 L[i] with
    | none =>
      rw [hm] at hg'
      refine iter_end ?_
      unfold ftp_six_p43b
      simp only
      rw [bif_dec (by omega), bif_dec (by omega), Int.toNat_natCast, List.getElem?_eq_getElem hi, Option.bind_some, hg']
      rfl
    | some n =>
      rw [hm] at hg'
      have hn := decM_le hm
      have hxn := hv n hm
      subst hxn
      by_cases h6 : i = 6
      · refine (iter_end (o := .inr errQ) ?_).trans ?_
        · unfold ftp_six_p43b
          simp only
          rw [bif_dec (by omega), bif_dec (by omega), Int.toNat_natCast, List.getElem?_eq_getElem hi, Option.bind_some, hg']
          simp only [Option.bind_some, Option.isSome_some, Bool.not_true, cond_false]
          rw [show ((acc.length : Int) == 6) = true by rw [beq_iff_eq]; omega]
          rfl
        · simp only [Option.bind_some]
          cases d4M (L.drop (i + 1)) with
          | none => rfl
          | some r => simp only [Option.bind_some]; rw [if_pos (by omega)]
      · have := ih (i + 1) (acc ++ [UInt8.ofNat n]) (by omega) (by simp [h2]) (by omega)
        refine Eq.trans (iter_go ?_) (this.trans ?_)
        · unfold ftp_six_p43b
          simp only
          rw [bif_dec (by omega), bif_dec (by omega), Int.toNat_natCast, List.getElem?_eq_getElem hi, Option.bind_some, hg']
          simp only [Option.bind_some, Option.isSome_some, Bool.not_true, cond_false]
          rw [show ((acc.length : Int) == 6) = false by rw [beq_eq_false_iff_ne]; omega, cond_false, fits16 (by omega) (by decide), byte_eq hn, e1]
          rfl
        · simp only [Option.bind_some]
          cases d4M (L.drop (i + 1)) with
          | none => rfl
          | some r => simp only [Option.bind_some, List.append_assoc, List.singleton_append]
theorem getD_is {b : By} {i : Nat} (h : i < b.length) : b.getD i 0 = b[i] := by simp [List.getD_eq_getElem?_getD, List.getElem?_eq_getElem h]
theorem pair_port (x y : UInt8) : ior .i64 (ishl .i64 (IntKind.i64.wrap ((x.toNat : Nat) : Int)) 8) (IntKind.i64.wrap ((y.toNat : Nat) : Int)) = ((2 ^ 8 * x.toNat + y.toNat : Nat) : Int) := by
  have hx := x.toNat_lt
  have hy := y.toNat_lt
  rw [wrap_i64 (by omega) (by omega), wrap_i64 (by omega) (by omega), show (8 : Int) = ((8 : Nat) : Int) from rfl, ishl_i64 (by decide) (by omega), ior_i64 (by omega) (by omega)]
theorem sum_port (x y : UInt8) : IntKind.i64.wrap ((IntKind.i64.wrap ((IntKind.i64.wrap ((x.toNat : Nat) : Int)) * 256)) + (IntKind.i64.wrap ((y.toNat : Nat) : Int))) = ((2 ^ 8 * x.toNat + y.toNat : Nat) : Int) := by
  have hx := x.toNat_lt
  have hy := y.toNat_lt
  rw [wrap_i64 (x := ((x.toNat : Nat) : Int)) (by omega) (by omega), wrap_i64 (x := ((y.toNat : Nat) : Int)) (by omega) (by omega), wrap_i64 (x := ((x.toNat : Nat) : Int) * 256) (by omega) (by omega), wrap_i64 (by omega) (by omega)]
  omega
theorem ftp_six_eq {s : By} (hs : s.length ≤ 1048576) : ftp_six s = some (sixQ s) := by
  unfold ftp_six sixQ
  obtain ⟨g1, g2⟩ := spl_small hs 44
  rw [Split_eq hs]
  have hp := addr6_parts g1 g2 (spl 44 s).length 0 [] (by omega) rfl (by omega)
  rw [List.drop_zero] at hp
  simp only [Option.bind_some]
  rw [show ftp_six_p43 (spl 44 s, ((spl 44 s).length : Int), 0, 0, 0, 0, 0, 0, []) = _ from hp]
  cases hd : d4M (spl 44 s) with
  | none =>
    simp only [Option.bind_some, Sum.elim_inr]
    split <;> rfl
  | some b =>
    have hb := d4M_len hd
    simp only
    by_cases h6 : 6 < (spl 44 s).length
    · rw [if_pos h6, if_neg (by omega)]
      rfl
    · rw [if_neg h6]
      simp only [Option.bind_some, Sum.elim_inl, List.nil_append]
      unfold ftp_six_p23
      simp only
      by_cases hl : (spl 44 s).length = 6
      · have hbl : b.length = 6 := by omega
        rw [if_pos hl, show ((b.length : Int) != 6) = false by rw [hbl]; rfl, cond_false, bif_dec (by omega), List.getElem?_eq_getElem (show 4 < b.length by omega)]
        simp only [Option.bind_some]
        rw [bif_dec (show (5 : Int) < (b.length : Int) by omega), List.getElem?_eq_getElem (show 5 < b.length by omega)]
        simp only [Option.bind_some]
        unfold sixB
        rw [getD_is (show 4 < b.length by omega), getD_is (show 5 < b.length by omega)]
        have hok : ((bif (decide (4 ≤ (b.length : Int))) then ((addr_From (b.take 4)).bind fun (r6 : (Int × Int × Int) × Int) => bif (decide (4 < (b.length : Int))) then ((b[4]?).bind fun (e7 : UInt8) => bif (decide (5 < (b.length : Int))) then ((b[5]?).bind fun (e8 : UInt8) => some ((6, (r6.1.1, r6.1.2.1, r6.1.2.2), (ior .i64 (ishl .i64 (IntKind.i64.wrap (e7.toNat : Int)) 8) (IntKind.i64.wrap (e8.toNat : Int)))), true)) else none) else none) else none) : Option (AskT × Bool)) = some ((((6 : Int), (fromA (b.take 4)).1, ((2 ^ 8 * b[4].toNat + b[5].toNat : Nat) : Int)) : AskT), true) := by
          rw [bif_dec (by omega), addr_From_eq]
          simp only [Option.bind_some]
          rw [bif_dec (by omega), List.getElem?_eq_getElem (show 4 < b.length by omega)]
          simp only [Option.bind_some]
          rw [bif_dec (by omega), List.getElem?_eq_getElem (show 5 < b.length by omega)]
          simp only [Option.bind_some]
          rw [pair_port]
        by_cases h4 : b[4].toNat = 0
        · rw [show (((b[4].toNat : Nat) : Int) == 0) = true by rw [h4]; rfl, cond_true]
          by_cases h5 : b[5].toNat = 0
          · rw [show (((b[5].toNat : Nat) : Int) == 0) = true by rw [h5]; rfl, cond_true, if_pos ⟨h4, h5⟩]
            rfl
          · rw [show (((b[5].toNat : Nat) : Int) == 0) = false by rw [beq_eq_false_iff_ne]; omega, cond_false, if_neg (fun h => h5 h.2)]
            exact hok
        · rw [show (((b[4].toNat : Nat) : Int) == 0) = false by rw [beq_eq_false_iff_ne]; omega, cond_false, if_neg (fun h => h4 h.1)]
          exact hok
      · rw [if_neg hl, show ((b.length : Int) != 6) = true by rw [bne_iff_ne]; omega]
        rfl
theorem ref6_parts {L : List By} (hL : L.length = 6) (hx : ∀ x ∈ L, x.length ≤ 1048576) : ∀ k i (acc : By), i + k = 6 → acc.length = i →
    ref18_six_p175 (L, (i : Int), 0, 0, 0, 0, 0, acc) = some (match d4M (L.drop i) with | some r => .inl (0, 0, 0, 0, 0, acc ++ r) | none => .inr errQ) := by
  intro k
  induction k with
  | zero =>
    intro i acc h1 h2
    unfold ref18_six_p175
    refine iter_end ?_
    unfold ref18_six_p175b
    rw [bif_ndec (by simp only; omega), List.drop_eq_nil_of_le (by omega)]
    simp only [d4M, List.append_nil]
  | succ k ih =>
    intro i acc h1 h2
    have hi : i < L.length := by omega
    have e1 : IntKind.i64.wrap ((i : Int) + 1) = ((i + 1 : Nat) : Int) := by rw [wrap_i64 (by omega) (by omega)]; omega
    obtain ⟨x, hg, hv⟩ := ref_dec (hx _ (List.getElem_mem hi)) (m := 255) (by omega) (by omega)
    have hg' : ref02_Number L[i] 10 255 = _ := hg
    rw [List.drop_eq_getElem_cons hi, d4M]
    unfold ref18_six_p175
    cases hm : decM 255 L[i] with
    | none =>
      rw [hm] at hg'
      refine iter_end ?_
      unfold ref18_six_p175b
      simp only
      rw [bif_dec (by omega), bif_dec (by omega), Int.toNat_natCast, List.getElem?_eq_getElem hi, Option.bind_some, hg']
      rfl
    | some n =>
      rw [hm] at hg'
      have hn := decM_le hm
      have hxn := hv n hm
      subst hxn
      have := ih (i + 1) (acc ++ [UInt8.ofNat n]) (by omega) (by simp [h2])
      refine Eq.trans (iter_go ?_) (this.trans ?_)
      · unfold ref18_six_p175b
        simp only
        rw [bif_dec (by omega), bif_dec (by omega), Int.toNat_natCast, List.getElem?_eq_getElem hi, Option.bind_some, hg']
        simp only [Option.bind_some, Option.isSome_some, Bool.not_true, cond_false]
        rw [fits16 (by omega) (by decide), byte_eq hn, e1]
        rfl
      · simp only [Option.bind_some]
        cases d4M (L.drop (i + 1)) with
        | none => rfl
        | some r => simp only [Option.bind_some, List.append_assoc, List.singleton_append]
theorem ref_six_eq' {s : By} (hs : s.length ≤ 1048576) : ref18_six s = some (sixQ s) := by
  unfold ref18_six sixQ
  rw [ref_Split_eq hs]
  simp only [Option.bind_some]
  by_cases hl : (spl 44 s).length = 6
  · rw [if_pos hl, show (((spl 44 s).length : Int) != 6) = false by rw [hl]; rfl, cond_false]
    have hp := ref6_parts hl (spl_small hs 44).2 6 0 [] rfl rfl
    rw [List.drop_zero] at hp
    rw [show ref18_six_p175 (spl 44 s, 0, 0, 0, 0, 0, 0, []) = _ from hp]
    cases hd : d4M (spl 44 s) with
    | none => rfl
    | some b =>
      have hbl : b.length = 6 := by have := d4M_len hd; omega
      simp only [Option.bind_some, Sum.elim_inl, List.nil_append]
      rw [bif_dec (by omega), ref02_From_eq]
      simp only [Option.bind_some]
      rw [bif_dec (by omega), List.getElem?_eq_getElem (show 4 < b.length by omega)]
      simp only [Option.bind_some]
      rw [bif_dec (by omega), List.getElem?_eq_getElem (show 5 < b.length by omega)]
      simp only [Option.bind_some]
      rw [sum_port]
      unfold sixB
      rw [getD_is (show 4 < b.length by omega), getD_is (show 5 < b.length by omega)]
      by_cases h0 : b[4].toNat = 0 ∧ b[5].toNat = 0
      · rw [if_pos h0, show (((2 ^ 8 * b[4].toNat + b[5].toNat : Nat) : Int) == 0) = true by rw [beq_iff_eq]; omega]
        rfl
      · rw [if_neg h0, show (((2 ^ 8 * b[4].toNat + b[5].toNat : Nat) : Int) == 0) = false by rw [beq_eq_false_iff_ne]; omega]
        rfl
  · rw [if_neg hl, show (((spl 44 s).length : Int) != 6) = true by rw [bne_iff_ne]; omega]
    rfl
end Go.Proofs.YtpkhlncohbakkaaGreatDoor.Jv
