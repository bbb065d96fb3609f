/- Numbers of texts, by both: sip.number and the reference's; conditions: none. -/
import Derived.Test.YtfaofikhabccoaaGreatDoorParse20
namespace Go.Proofs.YtfaofikhabccoaaGreatDoor.Jv
open Go A
set_option linter.unusedSectionVars false
set_option linter.unusedVariables false
set_option linter.unusedSimpArgs false
theorem number_same : @ref02_Number = @A.ref02_Number := rfl
theorem split_same : @ref02_Split = @A.ref02_Split := rfl
theorem tdiv_small {x : Int} (h0 : -10 < x) (h1 : x < 10) : Int.tdiv x 10 = 0 := by
  rcases Int.lt_or_le x 0 with h | h
  · have : Int.tdiv x 10 = -(Int.tdiv (-x) 10) := by rw [Int.neg_tdiv]; omega
    rw [this, Int.tdiv_eq_ediv_of_nonneg (by omega)]
    omega
  · rw [Int.tdiv_eq_ediv_of_nonneg h]
    omega
theorem num10_step {s : By} (hs : s.length ≤ 4194304) {m i n : Nat} (hm : m ≤ 4194304) (hn : n ≤ 4194304) (hi : i < s.length) :
    A.ref02_Number_p87b (s, 10, (m : Int), (n : Int), (i : Int)) = if 10 ≤ dv s[i] then some (.inr (.inr (0, false))) else if (if dv s[i] ≤ m then decide (m < n * 10 + dv s[i]) else decide (0 < n)) = true then some (.inr (.inr (0, false))) else some (.inl (s, 10, (m : Int), ((n * 10 + dv s[i] : Nat) : Int), ((i + 1 : Nat) : Int))) := by
  have e1 : IntKind.i64.wrap ((i : Int) + 1) = ((i + 1 : Nat) : Int) := by rw [wrap_i64 (by omega) (by omega)]; omega
  unfold A.ref02_Number_p87b
  simp only
  rw [bif_dec (by omega), bif_dec (by omega), bif_dec (by omega), bL_at hi, sign_eq]
  simp only [Option.bind_some]
  by_cases hd : 10 ≤ dv s[i]
  · rw [bif_dec (by omega), if_pos hd]
  · rw [bif_ndec (by omega), if_neg hd]
    have e2 : ((10 : Int) != 0) = true := rfl
    have hmul : (n : Int) * 10 = ((n * 10 : Nat) : Int) := by omega
    have e5 : IntKind.i64.wrap (IntKind.i64.wrap ((n : Int) * 10) + ((dv s[i] : Nat) : Int)) = ((n * 10 + dv s[i] : Nat) : Int) := by
      rw [hmul, wrap_i64 (x := ((n * 10 : Nat) : Int)) (by omega) (by omega), wrap_i64 (by omega) (by omega)]
      omega
    rw [e2, cond_true, e5, e1, wrap_i64 (x := (m : Int) - ((dv s[i] : Nat) : Int)) (by omega) (by omega)]
    by_cases hle : dv s[i] ≤ m
    · have e4 : IntKind.i64.wrap (Int.tdiv ((m : Int) - ((dv s[i] : Nat) : Int)) 10) = (((m - dv s[i]) / 10 : Nat) : Int) := by
        rw [show (m : Int) - ((dv s[i] : Nat) : Int) = ((m - dv s[i] : Nat) : Int) by omega, Int.tdiv_eq_ediv_of_nonneg (by omega)]
        rw [wrap_i64 (by omega) (by omega)]
        omega
      rw [e4, if_pos hle]
      by_cases hq2 : m < n * 10 + dv s[i]
      · rw [bif_dec (by omega), if_pos (decide_eq_true hq2)]
      · rw [bif_ndec (by omega), if_neg (by rw [decide_eq_false hq2]; exact Bool.false_ne_true)]
    · rw [tdiv_small (by omega) (by omega), show IntKind.i64.wrap 0 = 0 from rfl, if_neg hle]
      by_cases hq2 : 0 < n
      · rw [bif_dec (by omega), if_pos (decide_eq_true hq2)]
      · rw [bif_ndec (by omega), if_neg (by rw [decide_eq_false hq2]; exact Bool.false_ne_true)]
theorem num10_end {s : By} {m i n : Nat} (hi : s.length ≤ i) : A.ref02_Number_p87 (s, 10, (m : Int), (n : Int), (i : Int)) = some (.inl ((m : Int), (n : Int))) := by
  unfold A.ref02_Number_p87
  refine iter_end ?_
  unfold A.ref02_Number_p87b
  rw [bif_ndec (by simp only; omega)]
/-- Too large a digit at first: no number in any case. -/
theorem num10_over {s : By} (hs : s.length ≤ 4194304) {m : Nat} (hm : m ≤ 8) {i n : Nat} (hn : m < n) (hn9 : n ≤ 9) :
    A.ref02_Number_p87 (s, 10, (m : Int), (n : Int), (i : Int)) = some (.inr (0, false)) ∨ A.ref02_Number_p87 (s, 10, (m : Int), (n : Int), (i : Int)) = some (.inl ((m : Int), (n : Int))) := by
  by_cases hi : i < s.length
  · left
    have st := num10_step hs (m := m) (n := n) (by omega) (by omega) hi
    unfold A.ref02_Number_p87
    by_cases hd : 10 ≤ dv s[i]
    · rw [if_pos hd] at st
      exact iter_end st
    · rw [if_neg hd, if_pos (by split <;> exact decide_eq_true (by omega))] at st
      exact iter_end st
  · exact .inr (num10_end (by omega))
theorem num10 {s : By} (hs : s.length ≤ 4194304) {m : Nat} (hm : m ≤ 4194304) : ∀ k i n, i + k = s.length → n ≤ m →
    (∃ v, refN 10 m n (s.drop i) = some v ∧ A.ref02_Number_p87 (s, 10, (m : Int), (n : Int), (i : Int)) = some (.inl ((m : Int), (v : Int)))) ∨
    (refN 10 m n (s.drop i) = none ∧ (A.ref02_Number_p87 (s, 10, (m : Int), (n : Int), (i : Int)) = some (.inr (0, false)) ∨ ∃ v : Nat, m < v ∧ A.ref02_Number_p87 (s, 10, (m : Int), (n : Int), (i : Int)) = some (.inl ((m : Int), (v : Int))))) := by
  intro k
  induction k with
  | zero =>
    intro i n h1 h2
    left
    refine ⟨n, ?_, num10_end (by omega)⟩
    rw [List.drop_eq_nil_of_le (by omega)]
    rfl
  | succ k ih =>
    intro i n h1 h2
    have hi : i < s.length := by omega
    have st := num10_step hs hm (by omega : n ≤ 4194304) hi
    rw [List.drop_eq_getElem_cons hi, refN]
    by_cases hd : 10 ≤ dv s[i]
    · right
      rw [if_pos hd] at st ⊢
      exact ⟨rfl, .inl (by unfold A.ref02_Number_p87; exact iter_end st)⟩
    · rw [if_neg hd] at st ⊢
      by_cases hq : m < n * 10 + dv s[i]
      · right
        rw [if_pos hq]
        refine ⟨rfl, ?_⟩
        by_cases hc : (if dv s[i] ≤ m then decide (m < n * 10 + dv s[i]) else decide (0 < n)) = true
        · rw [if_pos hc] at st
          exact .inl (by unfold A.ref02_Number_p87; exact iter_end st)
        · rw [if_neg hc] at st
          have h0 : n = 0 ∧ m < dv s[i] := by
            by_cases hle : dv s[i] ≤ m
            · rw [if_pos hle] at hc
              exact absurd (decide_eq_true hq) hc
            · rw [if_neg hle] at hc
              have : ¬ 0 < n := fun h => hc (decide_eq_true h)
              omega
          have e : A.ref02_Number_p87 (s, 10, (m : Int), (n : Int), (i : Int)) = A.ref02_Number_p87 (s, 10, (m : Int), ((n * 10 + dv s[i] : Nat) : Int), ((i + 1 : Nat) : Int)) := by
            unfold A.ref02_Number_p87
            exact iter_go st
          rw [e]
          rcases num10_over hs (m := m) (by omega) (i := i + 1) (n := n * 10 + dv s[i]) (by omega) (by omega) with h | h
          · exact .inl h
          · exact .inr ⟨_, by omega, h⟩
      · rw [if_neg hq]
        have hc : ¬ (if dv s[i] ≤ m then decide (m < n * 10 + dv s[i]) else decide (0 < n)) = true := by
          rw [if_pos (by omega), decide_eq_false hq]
          exact Bool.false_ne_true
        rw [if_neg hc] at st
        have e : A.ref02_Number_p87 (s, 10, (m : Int), (n : Int), (i : Int)) = A.ref02_Number_p87 (s, 10, (m : Int), ((n * 10 + dv s[i] : Nat) : Int), ((i + 1 : Nat) : Int)) := by
          unfold A.ref02_Number_p87
          exact iter_go st
        rw [e]
        exact ih (i + 1) _ (by omega) (by omega)
theorem ref_num {s : By} (hs : s.length ≤ 4194304) {m : Nat} (hm : m ≤ 4194304) : Tells (ref20_number s (m : Int)) (decM m s) := by
  have key : Tells (A.ref02_Number s 10 (m : Int)) (decM m s) := by
    unfold A.ref02_Number A.ref02_Number_p5 decM
    cases s with
    | nil => exact ⟨0, rfl, fun n h => by simp at h⟩
    | cons c l =>
      have e0 : ((c :: l) == ([] : By)) = false := rfl
      simp only [e0, cond_false, beq_self_eq_true, cond_true]
      have hgo : Tells ((A.ref02_Number_p87 (c :: l, 10, (m : Int), 0, 0)).bind fun (o3 : (Int × Int) ⊕ (Int × Bool)) => Sum.elim (fun (y4 : Int × Int) => some (y4.2, (decide (y4.2 ≤ y4.1)))) (fun o5 => some (o5.1, o5.2)) o3) (refN 10 m 0 (c :: l)) := by
        have hloop := num10 hs hm (c :: l).length 0 0 (by omega) (by omega)
        rw [List.drop_zero] at hloop
        rcases hloop with ⟨v, h1, h2⟩ | ⟨h1, h2 | ⟨v, h3, h2⟩⟩
        · have h2' : A.ref02_Number_p87 (c :: l, 10, (m : Int), 0, 0) = _ := h2
          have := refN_le (by omega) h1
          rw [h1, h2']
          refine ⟨(v : Int), ?_, fun n h => by cases h; rfl⟩
          simp only [Option.bind_some, Sum.elim_inl]
          rw [decide_eq_true (by omega)]
          rfl
        · have h2' : A.ref02_Number_p87 (c :: l, 10, (m : Int), 0, 0) = _ := h2
          rw [h1, h2']
          exact ⟨0, rfl, fun n h => by cases h⟩
        · have h2' : A.ref02_Number_p87 (c :: l, 10, (m : Int), 0, 0) = _ := h2
          rw [h1, h2']
          refine ⟨(v : Int), ?_, fun n h => by cases h⟩
          simp only [Option.bind_some, Sum.elim_inl]
          rw [decide_eq_false (by omega)]
          rfl
      by_cases h1 : 1 < (c :: l).length
      · rw [bif_dec (by omega), bif_dec (by omega)]
        have hb : bL (c :: l) 0 = ((c.toNat : Nat) : Int) := bL_at (s := c :: l) (i := 0) (by simp)
        rw [hb]
        by_cases h48 : c = 48
        · subst h48
          rw [if_pos (.inr ⟨h1, by simp⟩)]
          exact ⟨0, rfl, fun n h => by cases h⟩
        · have e : (((c.toNat : Nat) : Int) == 48) = false := by
            rw [beq_eq_false_iff_ne]
            intro e
            exact h48 (UInt8.toNat_inj.1 (show c.toNat = 48 by omega))
          rw [e, if_neg (by simp; exact fun _ => h48)]
          exact hgo
      · rw [bif_ndec (by omega), if_neg (show ¬ (c :: l = [] ∨ (1 < (c :: l).length ∧ (c :: l)[0]? = some 48)) from fun e => e.elim (fun e => by cases e) (fun e => h1 e.1))]
        exact hgo
  obtain ⟨x, h1, h2⟩ := key
  refine ⟨x, ?_, h2⟩
  unfold ref20_number
  rw [number_same, h1]
  rfl
theorem parse_refM {m : Nat} (hm : m ≤ 4194304) : ∀ {l : By} {n : Nat}, l.all isDig = true → n ≤ m →
    (∃ v, refN 10 m n l = some v ∧ Lib.parseUint10 n l = .ok v) ∨ (refN 10 m n l = none ∧ (Lib.parseUint10 n l = .range ∨ ∃ u, Lib.parseUint10 n l = .ok u ∧ m < u))
  | [], n, _, _ => .inl ⟨n, rfl, rfl⟩
  | c :: l, n, h, hn => by
    simp only [List.all_cons, Bool.and_eq_true] at h
    obtain ⟨h1, h2, h3⟩ := dv_dig h.1
    unfold refN Lib.parseUint10
    rw [if_neg (show ¬ 10 ≤ dv c by omega), if_pos (show 48 ≤ c.toNat ∧ c.toNat ≤ 57 from ⟨h2, h3⟩), h1]
    by_cases hq : m < n * 10 + (c.toNat - 48)
    · right
      rw [if_pos hq]
      refine ⟨rfl, ?_⟩
      split
      · exact .inl rfl
      · split
        · exact .inl rfl
        · cases hp : Lib.parseUint10 (n * 10 + (c.toNat - 48)) l with
          | ok u => have := parse_ge hp; exact .inr ⟨u, rfl, by omega⟩
          | range => exact .inl rfl
          | «syntax» =>
            exfalso
            have : ∀ {l : By} {a : Nat}, l.all isDig = true → Lib.parseUint10 a l ≠ .«syntax» := by
              intro l
              induction l with
              | nil => intro a _ e; cases e
              | cons d r ih =>
                intro a hd
                simp only [List.all_cons, Bool.and_eq_true] at hd
                obtain ⟨_, g2, g3⟩ := dv_dig hd.1
                unfold Lib.parseUint10
                rw [if_pos ⟨g2, g3⟩]
                split
                · intro e; cases e
                · split
                  · intro e; cases e
                  · exact ih hd.2
            exact this h.2 hp
    · rw [if_neg hq, if_neg (by omega), if_neg (by omega)]
      exact parse_refM hm h.2 (by omega)
theorem snum_loop {s : By} (m : Int) : ∀ k i, i + k = s.length → sip_number_p21 (s, m, s, i) = some (if (s.drop i).all isDig then .inl (s, m) else .inr (0, false)) := by
  intro k
  induction k with
  | zero =>
    intro i h1
    unfold sip_number_p21
    refine iter_end ?_
    unfold sip_number_p21b
    rw [bif_ndec (by simp only; omega), List.drop_eq_nil_of_le (by omega)]
    rfl
  | succ k ih =>
    intro i h1
    have hi : i < s.length := by omega
    rw [List.drop_eq_getElem_cons hi, List.all_cons]
    unfold sip_number_p21
    by_cases hd : isDig s[i] = true
    · have hd' := hd
      simp only [isDig, Bool.and_eq_true, decide_eq_true_eq] at hd'
      rw [hd, Bool.true_and]
      refine Eq.trans (iter_go ?_) (ih (i + 1) (by omega))
      unfold sip_number_p21b
      simp only
      rw [bif_dec (by omega), A.decode_low hi (by omega)]
      simp only
      rw [bif_ndec (by omega), bif_ndec (by omega)]
    · have hd2 : isDig s[i] = false := by simpa using hd
      rw [hd2, Bool.false_and]
      refine iter_end ?_
      unfold sip_number_p21b
      simp only
      rw [bif_dec (by omega)]
      have hr : ((Utf8.decode ⟨⟨s⟩⟩ i).1 : Int) < 48 ∨ ((Utf8.decode ⟨⟨s⟩⟩ i).1 : Int) > 57 := by
        by_cases h128 : s[i].toNat < 128
        · rw [A.decode_low hi h128]
          simp only [isDig, Bool.and_eq_false_iff, decide_eq_false_iff_not] at hd2
          simp only
          omega
        · have := A.decode_high hi h128
          omega
      by_cases h48 : ((Utf8.decode ⟨⟨s⟩⟩ i).1 : Int) < 48
      · rw [bif_dec h48]; rfl
      · rw [bif_ndec h48, bif_dec (by omega)]; rfl
theorem sip_num {s : By} (hs : s.length ≤ 4194304) {m : Nat} (hm2 : m ≤ 4194304) : Tells (sip_number s (m : Int)) (decM m s) := by
  unfold sip_number
  rw [snum_loop (m : Int) s.length 0 (by omega), List.drop_zero]
  cases ha : s.all isDig with
  | false =>
    have hd : decM m s = none := by
      unfold decM
      split
      · rfl
      · refine refN_bad 0 ?_
        have := List.all_eq_false.1 ha
        obtain ⟨c, hc, hn⟩ := this
        exact ⟨c, hc, dv_not (by simpa using hn)⟩
    rw [hd]
    exact ⟨0, rfl, fun n h => by cases h⟩
  | true =>
    simp only [if_true, Option.bind_some, Sum.elim_inl]
    unfold strconv_Atoi
    rw [decide_eq_true (by omega)]
    simp only [cond_true, Option.bind_some]
    cases s with
    | nil => exact ⟨0, rfl, fun n h => by simp [decM] at h⟩
    | cons c l =>
      have hc := ha
      simp only [List.all_cons, Bool.and_eq_true] at hc
      obtain ⟨_, g2, g3⟩ := dv_dig hc.1
      have hmag : Lib.parseMag (c :: l) = Lib.parseUint10 0 (c :: l) := by unfold Lib.parseMag; rw [if_neg (by simp)]
      have hall : Lib.atoiAll (c :: l) = match Lib.parseUint10 0 (c :: l) with
          | .«syntax» => .«syntax»
          | .range => .range
          | .ok u => if 9223372036854775808 ≤ u then .range else .ok (u : Int) := by
        unfold Lib.atoiAll
        simp only [show ¬ c.toNat = 43 by omega, or_self, if_false, hmag, show ¬ c.toNat = 45 by omega, not_false_eq_true, true_and, false_and]
        try rfl
      have hfin : ∀ (x : Int), (atoiV (c :: l)).2 = false → decM m (c :: l) = none →
          Tells (bif (atoiV (c :: l)).2 then (bif (decide ((atoiV (c :: l)).1 ≤ (m : Int))) then (bif ((c :: l) == ([48] : List UInt8)) then (some ((atoiV (c :: l)).1, true)) else (bif (decide (0 < ((c :: l).length : Int))) then (some ((atoiV (c :: l)).1, ((bL (c :: l) 0) != 48))) else none)) else (some ((atoiV (c :: l)).1, false))) else (some ((atoiV (c :: l)).1, false))) (decM m (c :: l)) := fun x h1 h2 => by
        rw [h1, h2]
        exact ⟨_, rfl, fun n h => by cases h⟩
      have hle : refN 10 m 0 (c :: l) = none → decM m (c :: l) = none := fun h => by
        unfold decM
        split
        · rfl
        · exact h
      rcases parse_refM hm2 ha (Nat.zero_le m) with ⟨v, h1, h2⟩ | ⟨h1, h2 | ⟨u, h2, h3⟩⟩
      · have hv := refN_le (Nat.zero_le m) h1
        have hA : atoiV (c :: l) = ((v : Int), true) := by
          unfold atoiV
          rw [hall, h2]
          simp only [show ¬ 9223372036854775808 ≤ v by omega, if_false]
        rw [hA]
        simp only [cond_true]
        rw [bif_dec (by omega)]
        by_cases h48 : (c :: l) = [48]
        · rw [show ((c :: l) == ([48] : By)) = true by rw [h48]; rfl, cond_true]
          have hd : decM m (c :: l) = some v := by
            unfold decM
            rw [if_neg (by rw [h48]; simp)]
            exact h1
          rw [hd]
          exact ⟨_, rfl, fun n h => by cases h; rfl⟩
        · rw [show ((c :: l) == ([48] : By)) = false by simpa using h48, cond_false, bif_dec (by simp)]
          have hb : bL (c :: l) 0 = ((c.toNat : Nat) : Int) := bL_at (s := c :: l) (i := 0) (by simp)
          rw [hb]
          by_cases hc0 : c = 48
          · have hd : decM m (c :: l) = none := by
              unfold decM
              rw [if_pos]
              right
              refine ⟨?_, by simp [hc0]⟩
              cases l with
              | nil => exact absurd (by rw [hc0]) h48
              | cons d r => simp
            rw [hd, hc0]
            exact ⟨_, rfl, fun n h => by cases h⟩
          · have hd : decM m (c :: l) = some v := by
              unfold decM
              rw [if_neg (by simp; exact fun _ => hc0)]
              exact h1
            have e : (((c.toNat : Nat) : Int) != 48) = true := by
              rw [bne_iff_ne]
              intro e
              exact hc0 (UInt8.toNat_inj.1 (show c.toNat = 48 by omega))
            rw [hd, e]
            exact ⟨_, rfl, fun n h => by cases h; rfl⟩
      · refine hfin 0 ?_ (hle h1)
        unfold atoiV
        rw [hall, h2]
      · by_cases hu : 9223372036854775808 ≤ u
        · refine hfin 0 ?_ (hle h1)
          unfold atoiV
          rw [hall, h2]
          simp only [hu, if_true]
        · have hA : atoiV (c :: l) = ((u : Int), true) := by
            unfold atoiV
            rw [hall, h2]
            simp only [hu, if_false]
          rw [hA, hle h1]
          simp only [cond_true]
          rw [bif_ndec (by omega)]
          exact ⟨_, rfl, fun n h => by cases h⟩
end Go.Proofs.YtfaofikhabccoaaGreatDoor.Jv
