/- Layer 19: both texts write any request as one plain writing says; conditions: none. -/
import Derived.Test.YtdhogcppmnfekaaDoorTftp3
namespace Go.Proofs.YtdhogcppmnfekaaDoor.Jv
open Go
set_option linter.unusedVariables false
set_option linter.unusedSimpArgs false
def optsB (o : Ops) : By := o.flatMap fun p => p.1 ++ 0 :: (p.2 ++ [0])
def headB (r : Rq) : By := [0, if r.1 then 2 else 1] ++ (r.2.1 ++ 0 :: (r.2.2.1 ++ [0]))
def buildB (r : Rq) : By := headB r ++ optsB r.2.2.2
/-- How much a request holds. -/
def sizeO (o : Ops) : Nat := (o.map fun p => p.1.length + p.2.length + 2).sum
def sizeR (r : Rq) : Nat := r.2.1.length + r.2.2.1.length + 4 + sizeO r.2.2.2
theorem optsB_len (o : Ops) : (optsB o).length = sizeO o := by
  induction o with
  | nil => rfl
  | cons p o ih =>
    have : optsB (p :: o) = (p.1 ++ 0 :: (p.2 ++ [0])) ++ optsB o := rfl
    rw [this, List.length_append, ih]
    simp only [sizeO, List.map_cons, List.sum_cons, List.length_append, List.length_cons, List.length_nil]
    omega
theorem buildB_len (r : Rq) : (buildB r).length = sizeR r := by
  unfold buildB headB sizeR
  rw [List.length_append, optsB_len]
  simp only [List.length_append, List.length_cons, List.length_nil]
  omega
theorem sizeO_take (o : Ops) (i : Nat) : sizeO (o.take i) ≤ sizeO o := by
  conv => rhs; rw [← List.take_append_drop i o]
  unfold sizeO
  rw [List.map_append, List.sum_append]
  omega
theorem sizeO_len (o : Ops) : o.length ≤ sizeO o := by
  induction o with
  | nil => exact Nat.zero_le _
  | cons p o ih =>
    simp only [sizeO, List.map_cons, List.sum_cons, List.length_cons]
    unfold sizeO at ih
    omega
theorem sizeO_cons (p : By × By) (o : Ops) : sizeO (p :: o) = p.1.length + p.2.length + 2 + sizeO o := rfl
theorem sizeO_append (a b : Ops) : sizeO (a ++ b) = sizeO a + sizeO b := by
  unfold sizeO
  rw [List.map_append, List.sum_append]
def partsO (o : Ops) : List By := o.flatMap fun p => [p.1, p.2]
/-- The program's row of parts. -/
theorem parts_loop (w : Bool) (n m : By) (b : By) (o : Ops) (ps : List By) (ho : sizeO o ≤ 2097152) (hps : ps.length ≤ 2) : ∀ (k i : Nat), i + k = o.length →
    tftp_Build_p175 (o, (o.length : Int), (i : Int), w, n, m, o, b, ps ++ partsO (o.take i)) = some (w, n, m, o, b, ps ++ partsO o) := by
  have hl := sizeO_len o
  have hlen : ∀ l : Ops, (partsO l).length = 2 * l.length := fun l => by
    induction l with
    | nil => rfl
    | cons p l ih =>
      have : partsO (p :: l) = [p.1, p.2] ++ partsO l := rfl
      rw [this, List.length_append, ih]
      simp only [List.length_cons, List.length_nil]
      omega
  intro k
  induction k with
  | zero =>
    intro i hi
    have hi' : i = o.length := by omega
    subst hi'
    rw [List.take_length]
    refine iter_end ?_
    unfold tftp_Build_p175b
    simp only [ndlt (Nat.lt_irrefl _), cond_false]
  | succ k ih =>
    intro i hi
    have hlt : i < o.length := by omega
    have hg : o[i]? = some o[i] := List.getElem?_eq_getElem hlt
    have key : tftp_Build_p175b (o, (o.length : Int), (i : Int), w, n, m, o, b, ps ++ partsO (o.take i)) = some (.inl (o, (o.length : Int), ((i + 1 : Nat) : Int), w, n, m, o, b, ps ++ partsO (o.take (i + 1)))) := by
      unfold tftp_Build_p175b
      simp only [dlt hlt, d0, cond_true, Int.toNat_natCast, hg, Option.bind_some, wrapS (show i < 4611686018427387904 by omega)]
      rw [fits_ok (by rw [List.length_append, hlen, List.length_take]; omega) (by omega), List.take_add_one, hg]
      have : partsO (o.take i ++ (some o[i]).toList) = partsO (o.take i) ++ [o[i].1, o[i].2] := by
        unfold partsO
        rw [List.flatMap_append]
        rfl
      rw [this, List.append_assoc]
      rfl
    exact (iter_go key).trans (ih (i + 1) (by omega))
/-- The parts, each with a 0 behind. -/
def zs (l : List By) : By := l.flatMap fun p => p ++ [0]
theorem zs_parts (o : Ops) : zs (partsO o) = optsB o := by
  induction o with
  | nil => rfl
  | cons p o ih =>
    have : partsO (p :: o) = [p.1, p.2] ++ partsO o := rfl
    rw [this]
    unfold zs at *
    rw [List.flatMap_append, ih]
    simp [optsB]
theorem zs_loop (w : Bool) (n m : By) (o : Ops) (b : By) (ps : List By) (hb : b.length + (zs ps).length ≤ 4194304) : ∀ (k i : Nat), i + k = ps.length →
    tftp_Build_p351 ((ps.length : Int), (i : Int), w, n, m, o, b ++ zs (ps.take i), ps) = some (w, n, m, o, b ++ zs ps) := by
  have hlen : ∀ l : List By, l.length ≤ (zs l).length := fun l => by
    induction l with
    | nil => exact Nat.zero_le _
    | cons p l ih =>
      have : zs (p :: l) = (p ++ [0]) ++ zs l := rfl
      rw [this, List.length_append, List.length_append, List.length_cons]
      simp only [List.length_singleton]
      omega
  have hps := hlen ps
  intro k
  induction k with
  | zero =>
    intro i hi
    have hi' : i = ps.length := by omega
    subst hi'
    rw [List.take_length]
    refine iter_end ?_
    unfold tftp_Build_p351b
    simp only [ndlt (Nat.lt_irrefl _), cond_false]
  | succ k ih =>
    intro i hi
    have hlt : i < ps.length := by omega
    have hg : ps[i]? = some ps[i] := List.getElem?_eq_getElem hlt
    have e1 : zs (ps.take (i + 1)) = zs (ps.take i) ++ (ps[i] ++ [0]) := by
      rw [List.take_add_one, hg]
      unfold zs
      rw [List.flatMap_append]
      simp
    have e2 : (zs (ps.take (i + 1))).length ≤ (zs ps).length := by
      conv => rhs; rw [← List.take_append_drop (i + 1) ps]
      unfold zs
      rw [List.flatMap_append, List.length_append]
      omega
    rw [e1, List.length_append, List.length_append, List.length_singleton] at e2
    have key : tftp_Build_p351b ((ps.length : Int), (i : Int), w, n, m, o, b ++ zs (ps.take i), ps) = some (.inl ((ps.length : Int), ((i + 1 : Nat) : Int), w, n, m, o, b ++ zs (ps.take (i + 1)), ps)) := by
      unfold tftp_Build_p351b
      simp only [dlt hlt, d0, cond_true, Int.toNat_natCast, hg, Option.bind_some, wrapS (show i < 4611686018427387904 by omega)]
      rw [fits_ok (by rw [List.length_append]; omega) (by omega), fits_ok (by rw [List.length_append, List.length_append]; omega) (by omega), e1]
      simp only [cond_true, List.append_assoc]
    exact (iter_go key).trans (ih (i + 1) (by omega))
/-- The document's loop over the options. -/
theorem ropt_loop (w : Bool) (n m : By) (o : Ops) (b : By) (hb : b.length + sizeO o ≤ 4194304) : ∀ (k i : Nat), i + k = o.length →
    ref19_Build_p351 ((i : Int), w, n, m, o, b ++ optsB (o.take i)) = some (w, n, m, o, b ++ optsB o) := by
  have hl := sizeO_len o
  intro k
  induction k with
  | zero =>
    intro i hi
    have hi' : i = o.length := by omega
    subst hi'
    rw [List.take_length]
    refine iter_end ?_
    unfold ref19_Build_p351b
    simp only [ndlt (Nat.lt_irrefl _), cond_false]
  | succ k ih =>
    intro i hi
    have hlt : i < o.length := by omega
    have hg : o[i]? = some o[i] := List.getElem?_eq_getElem hlt
    have e1 : optsB (o.take (i + 1)) = optsB (o.take i) ++ (o[i].1 ++ 0 :: (o[i].2 ++ [0])) := by
      rw [List.take_add_one, hg]
      unfold optsB
      rw [List.flatMap_append]
      simp
    have e2 := sizeO_take o (i + 1)
    rw [← optsB_len, e1] at e2
    simp only [List.length_append, List.length_cons, List.length_nil] at e2
    have key : ref19_Build_p351b ((i : Int), w, n, m, o, b ++ optsB (o.take i)) = some (.inl (((i + 1 : Nat) : Int), w, n, m, o, b ++ optsB (o.take (i + 1)))) := by
      unfold ref19_Build_p351b
      simp only [dlt hlt, d0, cond_true, Int.toNat_natCast, hg, Option.bind_some, wrapS (show i < 4611686018427387904 by omega)]
      rw [fits_ok (by simp only [List.length_append]; omega) (by omega), fits_ok (by simp only [List.length_append]; omega) (by omega), fits_ok (by simp only [List.length_append, List.length_cons, List.length_nil]; omega) (by omega), fits_ok (by simp only [List.length_append, List.length_cons, List.length_nil]; omega) (by omega), e1]
      simp [List.append_assoc]
    exact (iter_go key).trans (ih (i + 1) (by omega))
/-! ### What is built -/
def mkRq (r : Rq) : Option By := match parseS (buildB r) with
  | some q => bif q == r then some (buildB r) else none
  | none => none
theorem mkRq_some {r : Rq} {b : By} (h : mkRq r = some b) : parseS (buildB r) = some r ∧ b = buildB r := by
  unfold mkRq at h
  split at h
  · rename_i q hq
    by_cases e : q = r
    · subst e
      rw [beq_self_eq_true] at h
      cases h
      exact ⟨hq, rfl⟩
    · rw [(beq_eq_false_iff_ne (a := q) (b := r)).2 e] at h
      cases h
  · cases h
theorem mkRq_of {r : Rq} (h : parseS (buildB r) = some r) : mkRq r = some (buildB r) := by
  unfold mkRq
  rw [h]
  simp only [beq_self_eq_true, cond_true]
theorem mkRq_ne {r q : Rq} (h : parseS (buildB r) = some q) (hq : q ≠ r) : mkRq r = none := by
  unfold mkRq
  rw [h]
  simp only
  rw [(beq_eq_false_iff_ne (a := q) (b := r)).2 hq]
  rfl
theorem mkRq_none {r : Rq} (h : parseS (buildB r) = none) : mkRq r = none := by
  unfold mkRq
  rw [h]
theorem parseS_w {b : By} {r : Rq} (h : parseS b = some r) : ∃ l, b = 0 :: (if r.1 then 2 else 1) :: l := by
  unfold parseS at h
  split at h
  · rename_i a c l
    split at h
    · rename_i hc
      have hw : r.1 = (c == 2) := by
        unfold parseB at h
        split at h
        · cases h
        · split at h
          · split at h
            · cases h
            · split at h
              · rename_i q hq _
                cases ho : optsF q.2.length q.2 with
                | none => rw [ho] at h; cases h
                | some k => rw [ho] at h; cases h; rfl
              · cases h
          · cases h
      refine ⟨l, ?_⟩
      rw [hw, hc.1]
      rcases hc.2 with rfl | rfl <;> rfl
    · cases h
  · cases h
theorem tbuild_eq {r : Rq} (h : sizeR r ≤ 2097152) : tftp_Build r = some (match mkRq r with | some b => (true, b) | none => (false, [])) := by
  obtain ⟨w, n, m, o⟩ := r
  have hsz := h
  unfold sizeR at hsz
  simp only at hsz
  have e1 : tftp_Build_p11 (w, n, m, o, [0, 1]) = some (w, n, m, o, [0, if w then 2 else 1]) := by
    unfold tftp_Build_p11
    cases w <;> rfl
  have hz : zs ([n, m] ++ partsO o) = n ++ 0 :: (m ++ 0 :: optsB o) := by
    unfold zs
    rw [List.flatMap_append]
    have := zs_parts o
    unfold zs at this
    rw [this]
    simp
  have hb : [0, if w then 2 else 1] ++ zs ([n, m] ++ partsO o) = buildB (w, n, m, o) := by
    rw [hz]
    simp [buildB, headB]
  have hlen := buildB_len (w, n, m, o)
  unfold sizeR at hlen
  simp only at hlen
  unfold tftp_Build
  rw [e1]
  simp only [Option.bind_some]
  have hp := parts_loop w n m [0, if w then 2 else 1] o [n, m] (by omega) (by simp) o.length 0 (by simp)
  rw [show ((0 : Nat) : Int) = 0 from rfl, List.take_zero] at hp
  rw [show [n, m] ++ partsO [] = [n, m] from rfl] at hp
  rw [hp]
  simp only [Option.bind_some]
  have hl2 := zs_loop w n m o [0, if w then 2 else 1] ([n, m] ++ partsO o) (by
    have := congrArg List.length hb
    rw [List.length_append] at this
    omega) ([n, m] ++ partsO o).length 0 (by simp)
  rw [show ((0 : Nat) : Int) = 0 from rfl, List.take_zero, show zs [] = [] from rfl, List.append_nil, hb] at hl2
  rw [hl2]
  simp only [Option.bind_some]
  rw [tparse_eq (by omega)]
  simp only [Option.bind_some]
  cases hps : parseS (buildB (w, n, m, o)) with
  | none => rw [mkRq_none hps]; rfl
  | some q =>
    obtain ⟨w', n', m', o'⟩ := q
    have hol := parseS_len hps
    simp only at hol
    simp only [Bool.not_true, cond_false]
    by_cases hn : n' = n
    · subst hn
      by_cases hm : m' = m
      · subst hm
        simp only [beq_self_eq_true, Bool.not_true, cond_false]
        rw [equal_eq (by omega)]
        simp only [Option.bind_some]
        by_cases ho : o' = o
        · subst ho
          have hw : w' = w := by
            obtain ⟨l, hl⟩ := parseS_w hps
            simp only [buildB, headB, List.cons_append, List.nil_append] at hl
            have := (List.cons.inj (List.cons.inj hl).2).1
            cases w <;> cases w' <;> first | rfl | (simp at this)
          subst hw
          rw [mkRq_of hps, beq_self_eq_true]
          rfl
        · have : (o' == o) = false := by rw [beq_eq_false_iff_ne]; exact ho
          rw [this, mkRq_ne hps (by intro e; cases e; exact ho rfl)]
          rfl
      · have : (m' == m) = false := by rw [beq_eq_false_iff_ne]; exact hm
        rw [this, mkRq_ne hps (by intro e; cases e; exact hm rfl), beq_self_eq_true]
        rfl
    · have : (n' == n) = false := by rw [beq_eq_false_iff_ne]; exact hn
      rw [this, mkRq_ne hps (by intro e; cases e; exact hn rfl)]
      rfl
theorem rbuild_eq {r : Rq} (h : sizeR r ≤ 2097152) : ref19_Build r = some (match mkRq r with | some b => (b, true) | none => ([], false)) := by
  obtain ⟨w, n, m, o⟩ := r
  have hsz := h
  unfold sizeR at hsz
  simp only at hsz
  have e1 : ref19_Build_p11 (w, n, m, o, [0, 1]) = some (w, n, m, o, [0, if w then 2 else 1]) := by
    unfold ref19_Build_p11
    cases w <;> rfl
  have hlen := buildB_len (w, n, m, o)
  unfold sizeR at hlen
  simp only at hlen
  unfold ref19_Build
  rw [e1]
  simp only [Option.bind_some]
  rw [fits_ok (by simp only [List.length_cons, List.length_nil]; omega) (by omega), fits_ok (by simp only [List.length_append, List.length_cons, List.length_nil]; omega) (by omega),
    fits_ok (by simp only [List.length_append, List.length_cons, List.length_nil]; omega) (by omega), fits_ok (by simp only [List.length_append, List.length_cons, List.length_nil]; omega) (by omega)]
  simp only [cond_true]
  have hl2 := ropt_loop w n m o (headB (w, n, m, o)) (by
    have e : (headB (w, n, m, o)).length = n.length + m.length + 4 := by
      simp only [headB, List.length_append, List.length_cons, List.length_nil]
      omega
    omega) o.length 0 (by simp)
  rw [show ((0 : Nat) : Int) = 0 from rfl, List.take_zero, show optsB [] = [] from rfl, List.append_nil] at hl2
  have eh : [0, if w then 2 else 1] ++ n ++ [0] ++ m ++ [0] = headB (w, n, m, o) := by simp [headB]
  rw [eh, hl2]
  simp only [Option.bind_some]
  rw [show headB (w, n, m, o) ++ optsB o = buildB (w, n, m, o) from rfl, rparse_eq (by omega)]
  simp only [Option.bind_some]
  cases hps : parseS (buildB (w, n, m, o)) with
  | none => rw [mkRq_none hps]; rfl
  | some q =>
    have hol := parseS_len hps
    simp only [Bool.not_true, cond_false]
    rw [rsame_eq (by simp only; omega)]
    simp only [Option.bind_some]
    by_cases hq : q = (w, n, m, o)
    · subst hq
      rw [beq_self_eq_true, mkRq_of hps]
      rfl
    · have : ((q.1, q.2.1, q.2.2.1, q.2.2.2) == (w, n, m, o)) = false := by rw [beq_eq_false_iff_ne]; exact hq
      rw [this, mkRq_ne hps hq]
      rfl
/-- What a request's reading says of its size. -/
theorem bulk_rq {r : Rq} (h : bulkT (.pair .bool (.pair .str (.pair .str (.sl (.pair .str .str))))) r ≤ 1048576) : sizeR r ≤ 1048584 := by
  obtain ⟨w, n, m, o⟩ := r
  have key : ∀ o : Ops, (o.map (bulkT (.pair .str .str))).sum = sizeO o := fun o => by
    induction o with
    | nil => rfl
    | cons p o ih =>
      rw [List.map_cons, List.sum_cons, ih, sizeO_cons]
      show (p.1.length + 1 + (p.2.length + 1)) + sizeO o = _
      omega
  have h1 : 1 + ((n.length + 1) + ((m.length + 1) + ((o.map (bulkT (.pair .str .str))).sum + 1))) ≤ 1048576 := h
  rw [key] at h1
  unfold sizeR
  simp only
  omega
end Go.Proofs.YtdhogcppmnfekaaDoor.Jv
