/- An address out of a text, by the program; conditions: none. -/
import Derived.Test.YtpkhlncohbakkaaDoorGroups18
namespace Go.Proofs.YtpkhlncohbakkaaDoor.Jv
open Go
set_option linter.unusedSectionVars false
set_option linter.unusedVariables false
set_option linter.unusedSimpArgs false
abbrev errA : (Int × Int × Int) × Int := ((0, 0, 0), 1)
def colons : By := [58, 58]
/-- An address of family 6, out of a text. -/
def sixM (s : By) : (Int × Int × Int) × Int :=
  match groupsM (Lib.cut s colons).1, groupsM (Lib.cut s colons).2.1 with
  | some a, some b => if (Lib.cut s colons).2.2 = true then (if 14 < a.length + b.length then errA else fromA (a ++ List.replicate (16 - (a.length + b.length)) 0 ++ b)) else (if a.length = 16 then fromA a else errA)
  | _, _ => errA
theorem cut_len (s sep : By) : (Lib.cut s sep).1.length ≤ s.length ∧ (Lib.cut s sep).2.1.length ≤ s.length := by
  unfold Lib.cut
  split
  · simp; omega
  · simp
theorem cut_not {s sep : By} (h : (Lib.cut s sep).2.2 = false) : Lib.cut s sep = (s, [], false) := by
  unfold Lib.cut at h ⊢
  split
  · rename_i h1; rw [if_pos h1] at h; cases h
  · rfl
theorem addr_six {s : By} (hs : s.length ≤ 1048576) (hc : 58 ∈ s) : addr_Parse s = some (sixM s) := by
  unfold addr_Parse strings_Contains strings_Cut
  rw [decide_eq_true (show s.length < 4294967281 by omega), contains_one, decide_eq_true hc]
  simp only [cond_true, Option.bind_some]
  obtain ⟨c1, c2⟩ := cut_len s colons
  show ((addr_groups (Lib.cut s colons).1).bind fun (r3 : Bool × List UInt8) => (addr_groups (Lib.cut s colons).2.1).bind _) = _
  rw [addr_groups_eq (s := (Lib.cut s colons).1) (by omega), Option.bind_some, addr_groups_eq (s := (Lib.cut s colons).2.1) (by omega), Option.bind_some]
  unfold sixM addr_Parse_p1141
  show (Option.bind (bif (!(groupsM (Lib.cut s colons).1).isSome) then _ else _) _) = _
  cases hA : groupsM (Lib.cut s colons).1 with
  | none => rfl
  | some a =>
    cases hB : groupsM (Lib.cut s colons).2.1 with
    | none => rfl
    | some b =>
      have la := groupsM_len (by omega) hA
      have lb := groupsM_len (by omega) hB
      simp only [Option.isSome_some, Bool.not_true, cond_false, Option.getD_some]
      have w1 : IntKind.i64.wrap ((a.length : Int) + (b.length : Int)) = (a.length : Int) + (b.length : Int) := wrap_i64 (by omega) (by omega)
      have pad : a.length + b.length ≤ 16 → IntKind.i64.wrap (IntKind.i64.wrap (16 - (a.length : Int)) - (b.length : Int)) = ((16 - (a.length + b.length) : Nat) : Int) := fun h => by
        rw [wrap_i64 (x := 16 - (a.length : Int)) (by omega) (by omega), wrap_i64 (by omega) (by omega)]
        omega
      cases hsh : (Lib.cut s colons).2.2 with
      | true =>
        have hsh' : (Lib.cut s [58, 58]).2.2 = true := hsh
        simp only [hsh', cond_true, if_true, Bool.not_true, cond_false, w1]
        by_cases h14 : 14 < a.length + b.length
        · rw [bif_dec (show (a.length : Int) + (b.length : Int) > 14 by omega), if_pos h14]
          rfl
        · rw [bif_ndec (show ¬ (a.length : Int) + (b.length : Int) > 14 by omega), if_neg h14]
          simp only [Option.bind_some, cond_false]
          rw [pad (by omega), bif_dec (by omega)]
          simp only [Int.toNat_natCast, List.length_append, List.length_replicate]
          rw [fits16 (by omega) (by decide), cond_true, fits16 (by omega) (by decide), cond_true, fits16 (by omega) (by decide), cond_true, addr_From_eq]
          rfl
      | false =>
        have hsh' : (Lib.cut s [58, 58]).2.2 = false := hsh
        have hcn := cut_not hsh
        have hb0 : b = [] := by
          rw [hcn] at hB
          cases hB
          rfl
        subst hb0
        simp only [hsh', cond_false, Bool.not_false, cond_true, Bool.false_eq_true, if_false]
        by_cases h16 : a.length = 16
        · have e : ((a.length : Int) != 16) = false := by rw [h16]; rfl
          rw [e, if_pos h16]
          simp only [Option.bind_some, cond_false]
          rw [pad (by simp; omega), bif_dec (by omega)]
          simp only [Int.toNat_natCast, List.length_append, List.length_replicate, List.length_nil]
          rw [fits16 (by omega) (by decide), cond_true, fits16 (by omega) (by decide), cond_true, fits16 (by omega) (by decide), cond_true, addr_From_eq]
          rw [h16]
          simp only [Nat.add_zero, Nat.sub_self, List.replicate_zero, List.append_nil]
          rfl
        · have e : ((a.length : Int) != 16) = true := by rw [bne_iff_ne]; omega
          rw [e, if_neg h16]
          rfl
/-! ### Family 4 -/
def d4M : List By → Option By
  | [] => some []
  | x :: l => (decM 255 x).bind fun n => (d4M l).bind fun r => some (UInt8.ofNat n :: r)
def fourM (s : By) : (Int × Int × Int) × Int := if (spl 46 s).length = 4 then (match d4M (spl 46 s) with | some b => fromA b | none => errA) else errA
theorem d4M_len : ∀ {L : List By} {r : By}, d4M L = some r → r.length = L.length
  | [], r, h => by cases h; rfl
  | x :: l, r, h => by
    unfold d4M at h
    cases hx : decM 255 x with
    | none => rw [hx] at h; cases h
    | some n =>
      cases hg : d4M l with
      | none => rw [hx, hg] at h; cases h
      | some q =>
        rw [hx, hg] at h
        cases h
        simp [d4M_len hg]
theorem decM_le {m : Nat} {s : By} {n : Nat} (h : decM m s = some n) : n ≤ m := by
  unfold decM at h
  split at h
  · cases h
  · exact refN_le (by omega) h
theorem byte_eq {n : Nat} (h : n ≤ 255) : UInt8.ofNat ((IntKind.u8.wrap (n : Int))).toNat = UInt8.ofNat n := by
  rw [wrap_u8 (by omega) (by omega)]
  rfl
theorem addr4_parts {L : List By} (hL : L.length ≤ 1048577) (hx : ∀ x ∈ L, x.length ≤ 1048576) : ∀ k i (acc : By), i + k = L.length → acc.length = i → i ≤ 4 →
    addr_Parse_p87 (L, (L.length : Int), (i : Int), 0, 0, 0, acc) = some (match d4M (L.drop i) with | some r => if 4 < L.length then .inr errA else .inl (0, 0, 0, acc ++ r) | none => .inr errA) := by
  intro k
  induction k with
  | zero =>
    intro i acc h1 h2 h3
    unfold addr_Parse_p87
    refine iter_end ?_
    unfold addr_Parse_p87b
    rw [bif_ndec (by simp only; omega), List.drop_eq_nil_of_le (by omega)]
    simp only [d4M, List.append_nil]
    rw [if_neg (by omega)]
  | succ k ih =>
    intro i acc h1 h2 h3
    have hi : i < L.length := by omega
    have e1 : IntKind.i64.wrap ((i : Int) + 1) = ((i + 1 : Nat) : Int) := by rw [wrap_i64 (by omega) (by omega)]; omega
    obtain ⟨x, hg, hv⟩ := addr_dec (hx _ (List.getElem_mem hi)) (m := 255) (by omega)
    have hg' : addr_decimal L[i] 255 = _ := hg
    rw [List.drop_eq_getElem_cons hi, d4M]
    unfold addr_Parse_p87
    cases hm : decM 255 L[i] with
    | none =>
      rw [hm] at hg'
      refine iter_end ?_
      unfold addr_Parse_p87b
      simp only
      rw [bif_dec (by omega), bif_dec (by omega), Int.toNat_natCast, List.getElem?_eq_getElem hi, Option.bind_some, hg']
      rfl
    | some n =>
      rw [hm] at hg'
      have hn := decM_le hm
      have hxn := hv n hm
      subst hxn
      by_cases h4 : i = 4
      · refine (iter_end (o := .inr errA) ?_).trans ?_
        · unfold addr_Parse_p87b
          simp only
          rw [bif_dec (by omega), bif_dec (by omega), Int.toNat_natCast, List.getElem?_eq_getElem hi, Option.bind_some, hg']
          simp only [Option.bind_some, Option.isSome_some, Bool.not_true, cond_false]
          rw [show ((acc.length : Int) == 4) = true by rw [beq_iff_eq]; omega]
          rfl
        · simp only [Option.bind_some]
          cases d4M (L.drop (i + 1)) with
          | none => rfl
          | some r => simp only [Option.bind_some]; rw [if_pos (by omega)]
      · have := ih (i + 1) (acc ++ [UInt8.ofNat n]) (by omega) (by simp [h2]) (by omega)
        refine Eq.trans (iter_go ?_) (this.trans ?_)
        · unfold addr_Parse_p87b
          simp only
          rw [bif_dec (by omega), bif_dec (by omega), Int.toNat_natCast, List.getElem?_eq_getElem hi, Option.bind_some, hg']
          simp only [Option.bind_some, Option.isSome_some, Bool.not_true, cond_false]
          rw [show ((acc.length : Int) == 4) = false by rw [beq_eq_false_iff_ne]; omega, cond_false, fits16 (by omega) (by decide), byte_eq hn, e1]
          rfl
        · simp only [Option.bind_some]
          cases d4M (L.drop (i + 1)) with
          | none => rfl
          | some r => simp only [Option.bind_some, List.append_assoc, List.singleton_append]
theorem addr_four {s : By} (hs : s.length ≤ 1048576) (hc : 58 ∉ s) : addr_Parse s = some (fourM s) := by
  unfold addr_Parse strings_Contains
  obtain ⟨g1, g2⟩ := spl_small hs 46
  rw [decide_eq_true (show s.length < 4294967281 by omega), contains_one, decide_eq_false hc]
  simp only [cond_true, cond_false, Option.bind_some]
  rw [Split_eq hs]
  have := addr4_parts g1 g2 (spl 46 s).length 0 [] (by omega) rfl (by omega)
  rw [List.drop_zero] at this
  simp only [Option.bind_some]
  rw [show addr_Parse_p87 (spl 46 s, ((spl 46 s).length : Int), 0, 0, 0, 0, []) = _ from this]
  unfold fourM
  cases hd : d4M (spl 46 s) with
  | none =>
    simp only [Option.bind_some, Sum.elim_inr]
    split <;> rfl
  | some r =>
    have hr := d4M_len hd
    simp only
    by_cases h4 : 4 < (spl 46 s).length
    · rw [if_pos h4, if_neg (by omega)]
      rfl
    · rw [if_neg h4]
      simp only [Option.bind_some, Sum.elim_inl, List.nil_append]
      by_cases h : (spl 46 s).length = 4
      · rw [if_pos h, show ((r.length : Int) != 4) = false by rw [hr, h]; rfl, cond_false, addr_From_eq]
        rfl
      · rw [if_neg h, show ((r.length : Int) != 4) = true by rw [bne_iff_ne]; omega]
        rfl
/-- An address out of a text. -/
def parseM (s : By) : (Int × Int × Int) × Int := if 58 ∈ s then sixM s else fourM s
theorem addr_Parse_eq {s : By} (hs : s.length ≤ 1048576) : addr_Parse s = some (parseM s) := by
  unfold parseM
  split
  · rename_i h; exact addr_six hs h
  · rename_i h; exact addr_four hs h
end Go.Proofs.YtpkhlncohbakkaaDoor.Jv
