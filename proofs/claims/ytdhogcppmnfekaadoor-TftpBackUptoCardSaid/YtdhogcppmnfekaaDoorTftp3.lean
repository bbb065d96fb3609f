/- Layer 19: copies and comparisons; conditions: none. -/
import Derived.Test.YtdhogcppmnfekaaDoorTftp2
namespace Go.Proofs.YtdhogcppmnfekaaDoor.Jv
open Go
set_option linter.unusedVariables false
set_option linter.unusedSimpArgs false
theorem ours_loop (a1 : Bool) (a2 a3 : By) (b1 : Bool) (b2 b3 : By) (b4 : Ops) (l : Ops) (hl : l.length ≤ 4194304) : ∀ (k i : Nat), i + k = l.length →
    law19_ours_p43 (l, (l.length : Int), (i : Int), a1, a2, a3, b1, b2, b3, b4, l.take i) = some (a1, a2, a3, b1, b2, b3, b4, l) := by
  intro k
  induction k with
  | zero =>
    intro i hi
    have hi' : i = l.length := by omega
    subst hi'
    rw [List.take_length]
    refine iter_end ?_
    unfold law19_ours_p43b
    simp only [ndlt (Nat.lt_irrefl _), cond_false]
  | succ k ih =>
    intro i hi
    have hlt : i < l.length := by omega
    have hg : l[i]? = some l[i] := List.getElem?_eq_getElem hlt
    have key : law19_ours_p43b (l, (l.length : Int), (i : Int), a1, a2, a3, b1, b2, b3, b4, l.take i) = some (.inl (l, (l.length : Int), ((i + 1 : Nat) : Int), a1, a2, a3, b1, b2, b3, b4, l.take (i + 1))) := by
      unfold law19_ours_p43b
      simp only [dlt hlt, d0, cond_true, Int.toNat_natCast, hg, Option.bind_some, wrapS (show i < 4611686018427387904 by omega)]
      rw [fits_ok (by rw [List.length_take]; omega) (by omega), List.take_add_one, hg]
      rfl
    exact (iter_go key).trans (ih (i + 1) (by omega))
theorem ours_eq {r : Rq} (h : r.2.2.2.length ≤ 4194304) : law19_ours r = some r := by
  unfold law19_ours
  have := ours_loop false [] [] r.1 r.2.1 r.2.2.1 [] r.2.2.2 h r.2.2.2.length 0 (by simp)
  rw [show ((0 : Nat) : Int) = 0 from rfl, List.take_zero] at this
  rw [this]
  rfl
theorem theirs_loop (a1 : Bool) (a2 a3 : By) (b1 : Bool) (b2 b3 : By) (b4 : Ops) (l : Ops) (hl : l.length ≤ 4194304) : ∀ (k i : Nat), i + k = l.length →
    law19_theirs_p43 (l, (l.length : Int), (i : Int), a1, a2, a3, b1, b2, b3, b4, l.take i) = some (a1, a2, a3, b1, b2, b3, b4, l) := by
  intro k
  induction k with
  | zero =>
    intro i hi
    have hi' : i = l.length := by omega
    subst hi'
    rw [List.take_length]
    refine iter_end ?_
    unfold law19_theirs_p43b
    simp only [ndlt (Nat.lt_irrefl _), cond_false]
  | succ k ih =>
    intro i hi
    have hlt : i < l.length := by omega
    have hg : l[i]? = some l[i] := List.getElem?_eq_getElem hlt
    have key : law19_theirs_p43b (l, (l.length : Int), (i : Int), a1, a2, a3, b1, b2, b3, b4, l.take i) = some (.inl (l, (l.length : Int), ((i + 1 : Nat) : Int), a1, a2, a3, b1, b2, b3, b4, l.take (i + 1))) := by
      unfold law19_theirs_p43b
      simp only [dlt hlt, d0, cond_true, Int.toNat_natCast, hg, Option.bind_some, wrapS (show i < 4611686018427387904 by omega)]
      rw [fits_ok (by rw [List.length_take]; omega) (by omega), List.take_add_one, hg]
      rfl
    exact (iter_go key).trans (ih (i + 1) (by omega))
theorem theirs_eq {r : Rq} (h : r.2.2.2.length ≤ 4194304) : law19_theirs r = some r := by
  unfold law19_theirs
  have := theirs_loop false [] [] r.1 r.2.1 r.2.2.1 [] r.2.2.2 h r.2.2.2.length 0 (by simp)
  rw [show ((0 : Nat) : Int) = 0 from rfl, List.take_zero] at this
  rw [this]
  rfl
/-! ### Comparisons -/
theorem pair_beq (a b : By × By) : ((a.1 == b.1) && ((a.2 == b.2) && true)) = (a == b) := by
  rw [Bool.and_true]; rfl
theorem same_loop (w1 w2 : Bool) (n1 m1 n2 m2 : By) (l r : Ops) (hlr : l.length = r.length) (hl : l.length ≤ 4194304) : ∀ (k i : Nat), i + k = l.length →
    ref19_Same_p43 ((i : Int), w1, n1, m1, l, w2, n2, m2, r) = some (if l.drop i == r.drop i then .inl () else .inr false) := by
  intro k
  induction k with
  | zero =>
    intro i hi
    have hi' : i = l.length := by omega
    subst hi'
    rw [List.drop_length, hlr, List.drop_length]
    refine iter_end ?_
    unfold ref19_Same_p43b
    simp only [hlr, ndlt (Nat.lt_irrefl _), cond_false]
    rfl
  | succ k ih =>
    intro i hi
    have hlt : i < l.length := by omega
    have hlt' : i < r.length := by omega
    have hg : l[i]? = some l[i] := List.getElem?_eq_getElem hlt
    have hg' : r[i]? = some r[i] := List.getElem?_eq_getElem hlt'
    rw [List.drop_eq_getElem_cons hlt, List.drop_eq_getElem_cons hlt', List.cons_beq_cons]
    cases hc : l[i] == r[i] with
    | false =>
      refine iter_end ?_
      unfold ref19_Same_p43b
      simp only [dlt hlt, d0, cond_true, Int.toNat_natCast, hg, hg', Option.bind_some, pair_beq, hc]
      rfl
    | true =>
      have key : ref19_Same_p43b ((i : Int), w1, n1, m1, l, w2, n2, m2, r) = some (.inl (((i + 1 : Nat) : Int), w1, n1, m1, l, w2, n2, m2, r)) := by
        unfold ref19_Same_p43b
        simp only [dlt hlt, d0, cond_true, Int.toNat_natCast, hg, hg', Option.bind_some, pair_beq, hc, wrapS (show i < 4611686018427387904 by omega)]
        rfl
      exact (iter_go key).trans (ih (i + 1) (by omega))
theorem rsame_eq {a b : Rq} (ha : a.2.2.2.length ≤ 4194304) : ref19_Same a b = some (a == b) := by
  obtain ⟨w1, n1, m1, l⟩ := a
  obtain ⟨w2, n2, m2, r⟩ := b
  simp only at ha
  have e : ((w1, n1, m1, l) == (w2, n2, m2, r)) = (w1 == w2 && (n1 == n2 && (m1 == m2 && l == r))) := rfl
  rw [e]
  unfold ref19_Same ref19_Same_p5
  simp only
  cases w1 == w2 with
  | false => rfl
  | true =>
    cases n1 == n2 with
    | false => rfl
    | true =>
      cases m1 == m2 with
      | false => rfl
      | true =>
        simp only [Bool.not_true, cond_false, Bool.true_and]
        by_cases hlr : l.length = r.length
        · have : ((l.length : Int) != (r.length : Int)) = false := by simp [hlr]
          rw [this]
          simp only [cond_false, Option.bind_some, Sum.elim_inl]
          have h := same_loop w1 w2 n1 m1 n2 m2 l r hlr ha l.length 0 (by simp)
          rw [show ((0 : Nat) : Int) = 0 from rfl, List.drop_zero, List.drop_zero] at h
          rw [h]
          cases l == r <;> rfl
        · have h1 : ((l.length : Int) != (r.length : Int)) = true := by simp; omega
          have h2 : (l == r) = false := by
            rw [beq_eq_false_iff_ne]
            intro e
            exact hlr (by rw [e])
          rw [h1, h2]
          rfl
theorem equal_loop (l r : Ops) (hlr : l.length = r.length) (hl : l.length ≤ 4194304) : ∀ (k i : Nat), i + k = l.length →
    slices_Equal_tftp_Option_tftp_Option_p43 (l, r, (l.length : Int), (i : Int)) = some (if l.drop i == r.drop i then .inl () else .inr false) := by
  intro k
  induction k with
  | zero =>
    intro i hi
    have hi' : i = l.length := by omega
    subst hi'
    rw [List.drop_length, hlr, List.drop_length]
    refine iter_end ?_
    unfold slices_Equal_tftp_Option_tftp_Option_p43b
    simp only [ndlt (Nat.lt_irrefl _), cond_false]
    rfl
  | succ k ih =>
    intro i hi
    have hlt : i < l.length := by omega
    have hlt' : i < r.length := by omega
    have hg : l[i]? = some l[i] := List.getElem?_eq_getElem hlt
    have hg' : r[i]? = some r[i] := List.getElem?_eq_getElem hlt'
    rw [List.drop_eq_getElem_cons hlt, List.drop_eq_getElem_cons hlt', List.cons_beq_cons]
    cases hc : l[i] == r[i] with
    | false =>
      refine iter_end ?_
      unfold slices_Equal_tftp_Option_tftp_Option_p43b
      simp only [dlt hlt, d0, cond_true, Int.toNat_natCast, hg, hg', Option.bind_some, pair_beq, hc]
      rfl
    | true =>
      have key : slices_Equal_tftp_Option_tftp_Option_p43b (l, r, (l.length : Int), (i : Int)) = some (.inl (l, r, (l.length : Int), ((i + 1 : Nat) : Int))) := by
        unfold slices_Equal_tftp_Option_tftp_Option_p43b
        simp only [dlt hlt, d0, cond_true, Int.toNat_natCast, hg, hg', Option.bind_some, pair_beq, hc, wrapS (show i < 4611686018427387904 by omega)]
        rfl
      exact (iter_go key).trans (ih (i + 1) (by omega))
theorem equal_eq {l r : Ops} (ha : l.length ≤ 4194304) : slices_Equal_tftp_Option_tftp_Option l r = some (l == r) := by
  unfold slices_Equal_tftp_Option_tftp_Option
  by_cases hlr : l.length = r.length
  · have : ((l.length : Int) != (r.length : Int)) = false := by simp [hlr]
    rw [this]
    simp only [cond_false]
    have h := equal_loop l r hlr ha l.length 0 (by simp)
    rw [show ((0 : Nat) : Int) = 0 from rfl, List.drop_zero, List.drop_zero] at h
    rw [h]
    cases l == r <;> rfl
  · have h1 : ((l.length : Int) != (r.length : Int)) = true := by simp; omega
    have h2 : (l == r) = false := by
      rw [beq_eq_false_iff_ne]
      intro e
      exact hlr (by rw [e])
    rw [h1, h2]
    rfl
/-! ### How much is read -/
theorem optsF_len : ∀ (n : Nat) (b : By) (l : Ops), optsF n b = some l → l.length ≤ b.length
  | 0, b, l, h => by
    unfold optsF at h
    split at h
    · cases h; simp
    · cases h
  | n + 1, b, l, h => by
    unfold optsF at h
    split at h
    · cases h; simp
    · split at h
      · cases h
      · rename_i p hp
        have h1 := spl_len (prt_spl hp).1
        split at h
        · cases h
        · rename_i q hq
          have h2 := spl_len (prt_spl hq).1
          cases ho : optsF n q.2 with
          | none => rw [ho] at h; cases h
          | some k =>
            rw [ho] at h
            cases h
            have := optsF_len n q.2 k ho
            simp only [List.length_cons]
            omega
theorem parseB_len {w : Bool} {l : By} {r : Rq} (h : parseB w l = some r) : r.2.2.2.length ≤ l.length := by
  unfold parseB at h
  split at h
  · cases h
  · rename_i p hp
    have h1 := spl_len (prt_spl hp).1
    split at h
    · split at h
      · cases h
      · rename_i q hq
        have h2 := spl_len (prt_spl hq).1
        split at h
        · cases ho : optsF q.2.length q.2 with
          | none => rw [ho] at h; cases h
          | some k =>
            rw [ho] at h
            cases h
            have := optsF_len _ q.2 k ho
            simp only
            omega
        · cases h
    · cases h
theorem parseS_len {b : By} {r : Rq} (h : parseS b = some r) : r.2.2.2.length ≤ b.length := by
  unfold parseS at h
  split at h
  · split at h
    · have := parseB_len h
      simp only [List.length_cons]
      omega
    · cases h
  · cases h
theorem alive_eq : law19_alive = some true := rfl
theorem bulk_bytes {l : By} (h : bulkT (.sl .u8) l ≤ 1048576) : l.length ≤ 1048576 := by
  have key : ∀ l : By, (l.map (bulkT .u8)).sum = l.length := fun l => by
    induction l with
    | nil => rfl
    | cons x l ih =>
      rw [List.map_cons, List.sum_cons, ih, List.length_cons]
      show 1 + l.length = _
      omega
  have h1 : (l.map (bulkT .u8)).sum + 1 ≤ 1048576 := h
  rw [key] at h1
  omega
end Go.Proofs.YtdhogcppmnfekaaDoor.Jv
