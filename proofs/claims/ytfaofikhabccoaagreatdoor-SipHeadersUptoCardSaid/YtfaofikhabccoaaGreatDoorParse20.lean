/- An address out of a text, by both; conditions: none. -/
import Derived.Test.YtfaofikhabccoaaGreatDoorGroups20
namespace Go.Proofs.YtfaofikhabccoaaGreatDoor.Jv.A
open Go
set_option linter.unusedSectionVars false
set_option linter.unusedVariables false
set_option linter.unusedSimpArgs false
abbrev errA : (Int × Int × Int) × Int := ((0, 0, 0), 1)
def colons : By := [58, 58]
/-- An address of family 6, out of a text. -/
def sixM (s : By) : (Int × Int × Int) × Int :=
  match groupsM (Lib.cut s colons).1, groupsM (Lib.cut s colons).2.1 with
  | some a, some b => if (Lib.cut s colons).2.2 = true then (if 14 < a.length + b.length then errA else fromA (a ++ List.replicate (16 - (a.length + b.length)) 0 ++ b)) else (if a.length = 16 then fromA a else errA)
  | _, _ => errA
theorem cut_len (s sep : By) : (Lib.cut s sep).1.length ≤ s.length ∧ (Lib.cut s sep).2.1.length ≤ s.length := by
  unfold Lib.cut
  split
  · simp; omega
  · simp
theorem cut_not {s sep : By} (h : (Lib.cut s sep).2.2 = false) : Lib.cut s sep = (s, [], false) := by
  unfold Lib.cut at h ⊢
  split
  · rename_i h1; rw [if_pos h1] at h; cases h
  · rfl
theorem addr_six {s : By} (hs : s.length ≤ 4194304) (hc : 58 ∈ s) : addr_Parse s = some (sixM s) := by
  unfold addr_Parse strings_Contains strings_Cut
  rw [decide_eq_true (show s.length < 4294967281 by omega), contains_one, decide_eq_true hc]
  simp only [cond_true, Option.bind_some]
  obtain ⟨c1, c2⟩ := cut_len s colons
  show ((addr_groups (Lib.cut s colons).1).bind fun (r3 : Bool × List UInt8) => (addr_groups (Lib.cut s colons).2.1).bind _) = _
  rw [addr_groups_eq (s := (Lib.cut s colons).1) (by omega), Option.bind_some, addr_groups_eq (s := (Lib.cut s colons).2.1) (by omega), Option.bind_some]
  unfold sixM addr_Parse_p1141
  show (Option.bind (bif (!(groupsM (Lib.cut s colons).1).isSome) then _ else _) _) = _
  cases hA : groupsM (Lib.cut s colons).1 with
  | none => rfl
  | some a =>
    cases hB : groupsM (Lib.cut s colons).2.1 with
    | none => rfl
    | some b =>
      have la := groupsM_len (by omega) hA
      have lb := groupsM_len (by omega) hB
      simp only [Option.isSome_some, Bool.not_true, cond_false, Option.getD_some]
      have w1 : IntKind.i64.wrap ((a.length : Int) + (b.length : Int)) = (a.length : Int) + (b.length : Int) := wrap_i64 (by omega) (by omega)
      have pad : a.length + b.length ≤ 16 → IntKind.i64.wrap (IntKind.i64.wrap (16 - (a.length : Int)) - (b.length : Int)) = ((16 - (a.length + b.length) : Nat) : Int) := fun h => by
        rw [wrap_i64 (x := 16 - (a.length : Int)) (by omega) (by omega), wrap_i64 (by omega) (by omega)]
        omega
      cases hsh : (Lib.cut s colons).2.2 with
      | true =>
        have hsh' : (Lib.cut s [58, 58]).2.2 = true := hsh
        simp only [hsh', cond_true, if_true, Bool.not_true, cond_false, w1]
        by_cases h14 : 14 < a.length + b.length
        · rw [bif_dec (show (a.length : Int) + (b.length : Int) > 14 by omega), if_pos h14]
          rfl
        · rw [bif_ndec (show ¬ (a.length : Int) + (b.length : Int) > 14 by omega), if_neg h14]
          simp only [Option.bind_some, cond_false]
          rw [pad (by omega), bif_dec (by omega)]
          simp only [Int.toNat_natCast, List.length_append, List.length_replicate]
          rw [fits16 (by omega) (by decide), cond_true, fits16 (by omega) (by decide), cond_true, fits16 (by omega) (by decide), cond_true, addr_From_eq]
          rfl
      | false =>
        have hsh' : (Lib.cut s [58, 58]).2.2 = false := hsh
        have hcn := cut_not hsh
        have hb0 : b = [] := by
          rw [hcn] at hB
          cases hB
          rfl
        subst hb0
        simp only [hsh', cond_false, Bool.not_false, cond_true, Bool.false_eq_true, if_false]
        by_cases h16 : a.length = 16
        · have e : ((a.length : Int) != 16) = false := by rw [h16]; rfl
          rw [e, if_pos h16]
          simp only [Option.bind_some, cond_false]
          rw [pad (by simp; omega), bif_dec (by omega)]
          simp only [Int.toNat_natCast, List.length_append, List.length_replicate, List.length_nil]
          rw [fits16 (by omega) (by decide), cond_true, fits16 (by omega) (by decide), cond_true, fits16 (by omega) (by decide), cond_true, addr_From_eq]
          rw [h16]
          simp only [Nat.add_zero, Nat.sub_self, List.replicate_zero, List.append_nil]
          rfl
        · have e : ((a.length : Int) != 16) = true := by rw [bne_iff_ne]; omega
          rw [e, if_neg h16]
          rfl
/-! ### The document's -/
theorem occ_two {s : By} {i : Nat} (h : i + 1 < s.length) : Lib.occAt s colons i = (decide (s[i] = 58) && decide (s[i + 1] = 58)) := by
  unfold Lib.occAt colons
  rw [List.drop_eq_getElem_cons (show i < s.length by omega), List.drop_eq_getElem_cons h]
  simp only [List.isPrefixOf, Bool.and_true]
  congr 1
  · rw [Bool.eq_iff_iff, beq_iff_eq, decide_eq_true_eq]; exact eq_comm
  · rw [Bool.eq_iff_iff, beq_iff_eq, decide_eq_true_eq]; exact eq_comm
theorem pad_loop (r0 r1 r2 : Int) (b : By) : ∀ k (a : By), a.length + b.length + k = 16 → ref02_six_p20261 (r0, r1, r2, a, b) = some (r0, r1, r2, a ++ List.replicate k 0, b) := by
  intro k
  induction k with
  | zero =>
    intro a h
    unfold ref02_six_p20261
    refine (iter_end (o := (r0, r1, r2, a, b)) ?_).trans (by simp)
    unfold ref02_six_p20261b
    simp only
    rw [wrap_i64 (by omega) (by omega), bif_ndec (by omega)]
  | succ k ih =>
    intro a h
    have := ih (a ++ [0]) (by simp; omega)
    rw [List.replicate_succ, List.append_cons, ← this]
    unfold ref02_six_p20261
    refine iter_go ?_
    unfold ref02_six_p20261b
    simp only
    rw [wrap_i64 (by omega) (by omega), bif_dec (by omega), fits16 (by omega) (by decide)]
    rfl
theorem bL_is {s : By} {i : Nat} (h : i < s.length) (c : UInt8) : (bL s (i : Int) != ((c.toNat : Nat) : Int)) = !decide (s[i] = c) := by
  rw [bL_at h]
  by_cases e : s[i] = c
  · rw [e]; simp
  · rw [decide_eq_false e]
    have : (((s[i].toNat : Nat) : Int) != ((c.toNat : Nat) : Int)) = true := by
      rw [bne_iff_ne]
      intro h
      exact e (UInt8.toNat_inj.1 (by omega))
    rw [this]; rfl
theorem p549_eq {s : By} (hs : s.length ≤ 4194304) {i : Nat} (h : i + 1 < s.length) (r0 r1 r2 : Int) :
    ref02_six_p549 (s, (i : Int), r0, r1, r2) = some (if Lib.occAt s colons i = true then .inl (s, (i : Int), r0, r1, r2) else .inr (s, (i : Int), r0, r1, r2)) := by
  have e1 : IntKind.i64.wrap ((i : Int) + 1) = ((i + 1 : Nat) : Int) := by rw [wrap_i64 (by omega) (by omega)]; omega
  have b1 : (bL s (i : Int) != 58) = !decide (s[i] = 58) := bL_is (show i < s.length by omega) 58
  have b2 : (bL s ((i + 1 : Nat) : Int) != 58) = !decide (s[i + 1] = 58) := bL_is h 58
  unfold ref02_six_p549
  simp only
  rw [e1, b1, b2, bif_dec (by omega), bif_dec (by omega), bif_dec (by omega), bif_dec (by omega), occ_two h]
  cases decide (s[i] = 58) <;> cases decide (s[i + 1] = 58) <;> rfl
theorem six_loop {s : By} (hs : s.length ≤ 4194304) : ∀ k i, i + k = s.length → Lib.NoOcc s colons i →
    ref02_six_p21 (s, (i : Int), 0, 0, 0) = some (if (Lib.cut s colons).2.2 = true then .inr (sixM s) else .inl (s, 0, 0, 0)) := by
  have hend : ∀ i, s.length ≤ i + 1 → Lib.NoOcc s colons i → ref02_six_p21 (s, (i : Int), 0, 0, 0) = some (if (Lib.cut s colons).2.2 = true then .inr (sixM s) else .inl (s, 0, 0, 0)) ∨ 4194304 < i := fun i hi hn => by
    by_cases hb : 4194304 < i
    · exact .inr hb
    left
    have hix : Lib.index s colons = -1 := Lib.index_past (by simp [colons]) hn (by simp [colons]; omega)
    have hcut : (Lib.cut s colons).2.2 = false := by unfold Lib.cut; rw [hix]; rfl
    rw [hcut]
    unfold ref02_six_p21
    refine iter_end ?_
    unfold ref02_six_p21b
    simp only
    rw [wrap_i64 (by omega) (by omega), bif_ndec (by omega)]
    rfl
  intro k
  induction k with
  | zero =>
    intro i h1 hn
    exact (hend i (by omega) hn).resolve_right (by omega)
  | succ k ih =>
    intro i h1 hn
    by_cases hl : i + 1 < s.length
    · have e1 : IntKind.i64.wrap ((i : Int) + 1) = ((i + 1 : Nat) : Int) := by rw [wrap_i64 (by omega) (by omega)]; omega
      have e2 : IntKind.i64.wrap ((i : Int) + 2) = ((i + 2 : Nat) : Int) := by rw [wrap_i64 (by omega) (by omega)]; omega
      cases ho : Lib.occAt s colons i with
      | false =>
        rw [← ih (i + 1) (by omega) (hn.succ ho)]
        unfold ref02_six_p21
        refine iter_go ?_
        unfold ref02_six_p21b
        simp only
        rw [e1, bif_dec (by omega), p549_eq hs hl, ho]
        simp only [Bool.false_eq_true, if_false, Option.bind_some, Sum.elim_inr]
        rw [e1]
      | true =>
        have hix : Lib.index s colons = (i : Int) := Lib.index_hit hn (by omega) ho
        have hcut : Lib.cut s colons = (s.take i, s.drop (i + 2), true) := by
          unfold Lib.cut
          rw [hix, if_pos (by omega)]
          rfl
        rw [hcut]
        simp only [if_true]
        unfold ref02_six_p21
        refine iter_end ?_
        unfold ref02_six_p21b
        simp only
        rw [e1, bif_dec (by omega), p549_eq hs hl, ho]
        simp only [if_true, Option.bind_some, Sum.elim_inl]
        rw [e2, bif_dec (by omega), bif_dec (by omega)]
        simp only [Int.toNat_natCast, Nat.sub_zero]
        rw [ref_groups_eq (s := s.take i) (by simp; omega)]
        simp only [Option.bind_some]
        rw [bif_dec (by omega), bif_dec (by omega), List.take_of_length_le (l := s.drop (i + 2)) (by simp), ref_groups_eq (s := s.drop (i + 2)) (by simp; omega)]
        simp only [Option.bind_some]
        unfold sixM ref02_six_p5925
        rw [hcut]
        simp only
        cases hA : groupsM (s.take i) with
        | none => rfl
        | some a =>
          cases hB : groupsM (s.drop (i + 2)) with
          | none => rfl
          | some b =>
            have la := groupsM_len (by simp; omega) hA
            have lb := groupsM_len (by simp; omega) hB
            simp only [Option.isSome_some, Bool.not_true, cond_false, Option.getD_some, if_true]
            have w1 : IntKind.i64.wrap ((a.length : Int) + (b.length : Int)) = (a.length : Int) + (b.length : Int) := wrap_i64 (by omega) (by omega)
            by_cases h14 : 14 < a.length + b.length
            · rw [bif_dec (show IntKind.i64.wrap ((a.length : Int) + (b.length : Int)) > 14 by rw [w1]; omega), if_pos h14]
              rfl
            · rw [bif_ndec (show ¬ IntKind.i64.wrap ((a.length : Int) + (b.length : Int)) > 14 by rw [w1]; omega), if_neg h14]
              simp only [Option.bind_some, Sum.elim_inl]
              rw [pad_loop 0 0 0 b (16 - (a.length + b.length)) a (by omega)]
              simp only [Option.bind_some]
              rw [fits16 (by simp; omega) (by decide), cond_true, ref02_From_eq]
              rfl
    · exact (hend i (by omega) hn).resolve_right (by omega)
theorem ref_six_eq {s : By} (hs : s.length ≤ 4194304) : ref02_six s = some (sixM s) := by
  unfold ref02_six
  have := six_loop hs s.length 0 (by omega) (Lib.NoOcc.zero _ _)
  rw [show ref02_six_p21 (s, 0, 0, 0, 0) = _ from this]
  cases hc : (Lib.cut s colons).2.2 with
  | true => simp only [if_true, Option.bind_some, Sum.elim_inr]
  | false =>
    simp only [Bool.false_eq_true, if_false, Option.bind_some, Sum.elim_inl]
    rw [ref_groups_eq hs]
    unfold sixM
    rw [cut_not hc]
    simp only [Option.bind_some]
    cases hA : groupsM s with
    | none => rfl
    | some a =>
      have hn : groupsM [] = some [] := rfl
      rw [hn]
      simp only [Option.isSome_some, Bool.not_true, cond_false, Option.getD_some, Bool.false_eq_true, if_false]
      by_cases h16 : a.length = 16
      · have e : ((a.length : Int) != 16) = false := by rw [h16]; rfl
        rw [e, if_pos h16, cond_false, ref02_From_eq]
        rfl
      · have e : ((a.length : Int) != 16) = true := by rw [bne_iff_ne]; omega
        rw [e, if_neg h16]
        rfl
/-! ### Family 4 -/
def d4M : List By → Option By
  | [] => some []
  | x :: l => (decM 255 x).bind fun n => (d4M l).bind fun r => some (UInt8.ofNat n :: r)
def fourM (s : By) : (Int × Int × Int) × Int := if (spl 46 s).length = 4 then (match d4M (spl 46 s) with | some b => fromA b | none => errA) else errA
theorem d4M_len : ∀ {L : List By} {r : By}, d4M L = some r → r.length = L.length
  | [], r, h => by cases h; rfl
  | x :: l, r, h => by
    unfold d4M at h
    cases hx : decM 255 x with
    | none => rw [hx] at h; cases h
    | some n =>
      cases hg : d4M l with
      | none => rw [hx, hg] at h; cases h
      | some q =>
        rw [hx, hg] at h
        cases h
        simp [d4M_len hg]
theorem decM_le {m : Nat} {s : By} {n : Nat} (h : decM m s = some n) : n ≤ m := by
  unfold decM at h
  split at h
  · cases h
  · exact refN_le (by omega) h
theorem byte_eq {n : Nat} (h : n ≤ 255) : UInt8.ofNat ((IntKind.u8.wrap (n : Int))).toNat = UInt8.ofNat n := by
  rw [wrap_u8 (by omega) (by omega)]
  rfl
theorem addr4_parts {L : List By} (hL : L.length ≤ 4194305) (hx : ∀ x ∈ L, x.length ≤ 4194304) : ∀ k i (acc : By), i + k = L.length → acc.length = i → i ≤ 4 →
    addr_Parse_p87 (L, (L.length : Int), (i : Int), 0, 0, 0, acc) = some (match d4M (L.drop i) with | some r => if 4 < L.length then .inr errA else .inl (0, 0, 0, acc ++ r) | none => .inr errA) := by
  intro k
  induction k with
  | zero =>
    intro i acc h1 h2 h3
    unfold addr_Parse_p87
    refine iter_end ?_
    unfold addr_Parse_p87b
    rw [bif_ndec (by simp only; omega), List.drop_eq_nil_of_le (by omega)]
    simp only [d4M, List.append_nil]
    rw [if_neg (by omega)]
  | succ k ih =>
    intro i acc h1 h2 h3
    have hi : i < L.length := by omega
    have e1 : IntKind.i64.wrap ((i : Int) + 1) = ((i + 1 : Nat) : Int) := by rw [wrap_i64 (by omega) (by omega)]; omega
    obtain ⟨x, hg, hv⟩ := addr_dec (hx _ (List.getElem_mem hi)) (m := 255) (by omega)
    have hg' : addr_decimal L[i] 255 = _ := hg
    rw [List.drop_eq_getElem_cons hi, d4M]
    unfold addr_Parse_p87
    cases hm : decM 255 L[i] with
    | none =>
      rw [hm] at hg'
      refine iter_end ?_
      unfold addr_Parse_p87b
      simp only
      rw [bif_dec (by omega), bif_dec (by omega), Int.toNat_natCast, List.getElem?_eq_getElem hi, Option.bind_some, hg']
      rfl
    | some n =>
      rw [hm] at hg'
      have hn := decM_le hm
      have hxn := hv n hm
      subst hxn
      by_cases h4 : i = 4
      · refine (iter_end (o := .inr errA) ?_).trans ?_
        · unfold addr_Parse_p87b
          simp only
          rw [bif_dec (by omega), bif_dec (by omega), Int.toNat_natCast, List.getElem?_eq_getElem hi, Option.bind_some, hg']
          simp only [Option.bind_some, Option.isSome_some, Bool.not_true, cond_false]
          rw [show ((acc.length : Int) == 4) = true by rw [beq_iff_eq]; omega]
          rfl
        · simp only [Option.bind_some]
          cases d4M (L.drop (i + 1)) with
          | none => rfl
          | some r => simp only [Option.bind_some]; rw [if_pos (by omega)]
      · have := ih (i + 1) (acc ++ [UInt8.ofNat n]) (by omega) (by simp [h2]) (by omega)
        refine Eq.trans (iter_go ?_) (this.trans ?_)
        · unfold addr_Parse_p87b
          simp only
          rw [bif_dec (by omega), bif_dec (by omega), Int.toNat_natCast, List.getElem?_eq_getElem hi, Option.bind_some, hg']
          simp only [Option.bind_some, Option.isSome_some, Bool.not_true, cond_false]
          rw [show ((acc.length : Int) == 4) = false by rw [beq_eq_false_iff_ne]; omega, cond_false, fits16 (by omega) (by decide), byte_eq hn, e1]
          rfl
        · simp only [Option.bind_some]
          cases d4M (L.drop (i + 1)) with
          | none => rfl
          | some r => simp only [Option.bind_some, List.append_assoc, List.singleton_append]
theorem addr_four {s : By} (hs : s.length ≤ 4194304) (hc : 58 ∉ s) : addr_Parse s = some (fourM s) := by
  unfold addr_Parse strings_Contains
  obtain ⟨g1, g2⟩ := spl_small hs 46
  rw [decide_eq_true (show s.length < 4294967281 by omega), contains_one, decide_eq_false hc]
  simp only [cond_true, cond_false, Option.bind_some]
  rw [Split_eq hs]
  have := addr4_parts g1 g2 (spl 46 s).length 0 [] (by omega) rfl (by omega)
  rw [List.drop_zero] at this
  simp only [Option.bind_some]
  rw [show addr_Parse_p87 (spl 46 s, ((spl 46 s).length : Int), 0, 0, 0, 0, []) = _ from this]
  unfold fourM
  cases hd : d4M (spl 46 s) with
  | none =>
    simp only [Option.bind_some, Sum.elim_inr]
    split <;> rfl
  | some r =>
    have hr := d4M_len hd
    simp only
    by_cases h4 : 4 < (spl 46 s).length
    · rw [if_pos h4, if_neg (by omega)]
      rfl
    · rw [if_neg h4]
      simp only [Option.bind_some, Sum.elim_inl, List.nil_append]
      by_cases h : (spl 46 s).length = 4
      · rw [if_pos h, show ((r.length : Int) != 4) = false by rw [hr, h]; rfl, cond_false, addr_From_eq]
        rfl
      · rw [if_neg h, show ((r.length : Int) != 4) = true by rw [bne_iff_ne]; omega]
        rfl
theorem ref4_parts {L : List By} (hL : L.length = 4) (hx : ∀ x ∈ L, x.length ≤ 4194304) : ∀ k i (acc : By), i + k = 4 → acc.length = i →
    ref02_Parse_p351 (L, (i : Int), 0, 0, 0, acc) = some (match d4M (L.drop i) with | some r => .inl (0, 0, 0, acc ++ r) | none => .inr errA) := by
  intro k
  induction k with
  | zero =>
    intro i acc h1 h2
    unfold ref02_Parse_p351
    refine iter_end ?_
    unfold ref02_Parse_p351b
    rw [bif_ndec (by simp only; omega), List.drop_eq_nil_of_le (by omega)]
    simp only [d4M, List.append_nil]
  | succ k ih =>
    intro i acc h1 h2
    have hi : i < L.length := by omega
    have e1 : IntKind.i64.wrap ((i : Int) + 1) = ((i + 1 : Nat) : Int) := by rw [wrap_i64 (by omega) (by omega)]; omega
    obtain ⟨x, hg, hv⟩ := ref_dec (hx _ (List.getElem_mem hi)) (m := 255) (by omega) (by omega)
    have hg' : ref02_Number L[i] 10 255 = _ := hg
    rw [List.drop_eq_getElem_cons hi, d4M]
    unfold ref02_Parse_p351
    cases hm : decM 255 L[i] with
    | none =>
      rw [hm] at hg'
      refine iter_end ?_
      unfold ref02_Parse_p351b
      simp only
      rw [bif_dec (by omega), bif_dec (by omega), Int.toNat_natCast, List.getElem?_eq_getElem hi, Option.bind_some, hg']
      rfl
    | some n =>
      rw [hm] at hg'
      have hn := decM_le hm
      have hxn := hv n hm
      subst hxn
      have := ih (i + 1) (acc ++ [UInt8.ofNat n]) (by omega) (by simp [h2])
      refine Eq.trans (iter_go ?_) (this.trans ?_)
      · unfold ref02_Parse_p351b
        simp only
        rw [bif_dec (by omega), bif_dec (by omega), Int.toNat_natCast, List.getElem?_eq_getElem hi, Option.bind_some, hg']
        simp only [Option.bind_some, Option.isSome_some, Bool.not_true, cond_false]
        rw [fits16 (by omega) (by decide), byte_eq hn, e1]
        rfl
      · simp only [Option.bind_some]
        cases d4M (L.drop (i + 1)) with
        | none => rfl
        | some r => simp only [Option.bind_some, List.append_assoc, List.singleton_append]
/-- An address out of a text. -/
def parseM (s : By) : (Int × Int × Int) × Int := if 58 ∈ s then sixM s else fourM s
theorem addr_Parse_eq {s : By} (hs : s.length ≤ 4194304) : addr_Parse s = some (parseM s) := by
  unfold parseM
  split
  · rename_i h; exact addr_six hs h
  · rename_i h; exact addr_four hs h
theorem colon_loop {s : By} (hs : s.length ≤ 4194304) : ∀ k i, i + k = s.length → ref02_Parse_p21 (s, (i : Int), 0, 0, 0) = some (if 58 ∈ s.drop i then .inr (sixM s) else .inl (s, 0, 0, 0)) := by
  intro k
  induction k with
  | zero =>
    intro i h1
    unfold ref02_Parse_p21
    refine iter_end ?_
    unfold ref02_Parse_p21b
    rw [bif_ndec (by simp only; omega), List.drop_eq_nil_of_le (by omega), if_neg (by simp)]
  | succ k ih =>
    intro i h1
    have hi : i < s.length := by omega
    have e1 : IntKind.i64.wrap ((i : Int) + 1) = ((i + 1 : Nat) : Int) := by rw [wrap_i64 (by omega) (by omega)]; omega
    have hb : (bL s (i : Int) == 58) = decide (s[i] = 58) := by
      have := bL_is hi 58
      have e : (bL s (i : Int) != 58) = !decide (s[i] = 58) := this
      rw [bne] at e
      exact Bool.not_inj e
    rw [List.drop_eq_getElem_cons hi]
    unfold ref02_Parse_p21
    by_cases hc : s[i] = 58
    · rw [if_pos (by rw [hc]; simp)]
      refine iter_end ?_
      unfold ref02_Parse_p21b
      simp only
      rw [bif_dec (by omega), bif_dec (by omega), bif_dec (by omega), hb, decide_eq_true hc, cond_true, ref_six_eq hs]
      rfl
    · have hmem : (58 ∈ s[i] :: s.drop (i + 1)) ↔ 58 ∈ s.drop (i + 1) := by
        rw [List.mem_cons]
        exact ⟨fun h => h.resolve_left (fun e => hc e.symm), .inr⟩
      have hif : (if 58 ∈ s[i] :: s.drop (i + 1) then (.inr (sixM s) : (List UInt8 × Int × Int × Int) ⊕ ((Int × Int × Int) × Int)) else .inl (s, 0, 0, 0)) = if 58 ∈ s.drop (i + 1) then .inr (sixM s) else .inl (s, 0, 0, 0) := by
        by_cases h : 58 ∈ s.drop (i + 1)
        · rw [if_pos h, if_pos (hmem.2 h)]
        · rw [if_neg h, if_neg (fun e => h (hmem.1 e))]
      rw [hif]
      refine Eq.trans (iter_go ?_) (ih (i + 1) (by omega))
      unfold ref02_Parse_p21b
      simp only
      rw [bif_dec (by omega), bif_dec (by omega), bif_dec (by omega), hb, decide_eq_false hc, cond_false, e1]
theorem ref_Parse_eq {s : By} (hs : s.length ≤ 4194304) : ref02_Parse s = some (parseM s) := by
  unfold ref02_Parse parseM
  have := colon_loop hs s.length 0 (by omega)
  rw [List.drop_zero] at this
  rw [show ref02_Parse_p21 (s, 0, 0, 0, 0) = _ from this]
  by_cases hc : 58 ∈ s
  · rw [if_pos hc, if_pos hc]
    rfl
  · rw [if_neg hc, if_neg hc]
    simp only [Option.bind_some, Sum.elim_inl]
    rw [ref_Split_eq hs]
    simp only [Option.bind_some]
    unfold fourM
    by_cases h4 : (spl 46 s).length = 4
    · rw [if_pos h4, show (((spl 46 s).length : Int) != 4) = false by rw [h4]; rfl, cond_false]
      have := ref4_parts h4 (spl_small hs 46).2 4 0 [] rfl rfl
      rw [List.drop_zero] at this
      rw [show ref02_Parse_p351 (spl 46 s, 0, 0, 0, 0, []) = _ from this]
      cases hd : d4M (spl 46 s) with
      | none => rfl
      | some r =>
        simp only [Option.bind_some, Sum.elim_inl, List.nil_append]
        rw [ref02_From_eq]
        rfl
    · rw [if_neg h4, show (((spl 46 s).length : Int) != 4) = true by rw [bne_iff_ne]; omega]
      rfl
end Go.Proofs.YtfaofikhabccoaaGreatDoor.Jv.A
