/- A header more says nothing; conditions: none. -/
import Derived.Test.YtfaofikhabccoaaGreatDoorOut20
namespace Go.Proofs.YtfaofikhabccoaaGreatDoor.Jv
open Go A
set_option linter.unusedSectionVars false
set_option linter.unusedVariables false
set_option linter.unusedSimpArgs false
theorem occ_app {s q : By} {j : Nat} (h : j + 2 ≤ s.length) : Lib.occAt (s ++ q) crlf j = Lib.occAt s crlf j := by
  unfold Lib.occAt
  rw [Bool.eq_iff_iff, List.isPrefixOf_iff_prefix, List.isPrefixOf_iff_prefix, List.drop_append_of_le_length (by omega)]
  refine ⟨fun e => ?_, fun e => e.trans (List.prefix_append _ _)⟩
  refine List.prefix_of_prefix_length_le e (List.prefix_append _ _) ?_
  rw [List.length_drop]
  show 2 ≤ s.length - j
  omega
theorem occ_room {s : By} {j : Nat} (h : Lib.occAt s crlf j = true) : j + 2 ≤ s.length := by
  unfold Lib.occAt at h
  have := (List.isPrefixOf_iff_prefix.1 h).length_le
  rw [List.length_drop] at this
  have e : crlf.length = 2 := rfl
  omega
theorem index_app {s q : By} {i : Nat} (h : Lib.index s crlf = (i : Int)) : Lib.index (s ++ q) crlf = (i : Int) := by
  rcases Lib.index_spec s crlf with ⟨h1, _⟩ | ⟨i0, h1, h2, h3, h4⟩
  · omega
  · have : i0 = i := by omega
    subst this
    have hr := occ_room h3
    refine Lib.index_first (by simp <;> omega) ?_ ?_
    · rw [occ_app hr]; exact h3
    · intro j hj
      rw [occ_app (by omega)]
      exact h4 j hj
theorem occ_take {s : By} {t j : Nat} (h : j + 2 ≤ t) : Lib.occAt (s.take t) crlf j = Lib.occAt s crlf j := by
  unfold Lib.occAt
  rw [Bool.eq_iff_iff, List.isPrefixOf_iff_prefix, List.isPrefixOf_iff_prefix, List.drop_take, List.prefix_take_iff]
  exact ⟨fun h => h.1, fun h1 => ⟨h1, show 2 ≤ t - j by omega⟩⟩
theorem index_take {s : By} {i t : Nat} (h : Lib.index s crlf = (i : Int)) (ht : i + 2 ≤ t) : Lib.index (s.take t) crlf = (i : Int) := by
  rcases Lib.index_spec s crlf with ⟨h1, _⟩ | ⟨i0, h1, h2, h3, h4⟩
  · omega
  · have : i0 = i := by omega
    subst this
    have hr := occ_room h3
    refine Lib.index_first (by rw [List.length_take]; omega) ?_ ?_
    · rw [occ_take ht]; exact h3
    · intro j hj
      rw [occ_take (by omega)]
      exact h4 j hj
theorem index_line : ∀ {p q : By}, 13 ∉ p → Lib.index (p ++ 13 :: 10 :: q) crlf = (p.length : Int)
  | [], q, _ => by
    have : crlf.isPrefixOf (13 :: 10 :: q) = true := by simp [crlf, List.isPrefixOf]
    rw [List.nil_append, Lib.index, if_pos this]
    rfl
  | b :: p, q, h => by
    have h1 : b ≠ 13 := fun e => h (by rw [e]; simp)
    have ih := index_line (p := p) (q := q) (fun e => h (List.mem_cons_of_mem _ e))
    have hn : crlf.isPrefixOf (b :: (p ++ 13 :: 10 :: q)) = false := by
      have : (13 == b) = false := by rw [beq_eq_false_iff_ne]; exact fun e => h1 e.symm
      simp [crlf, List.isPrefixOf, this]
    rw [List.cons_append, Lib.index, if_neg (by rw [hn]; exact Bool.false_ne_true), ih]
    have : ((p.length : Int) == -1) = false := by rw [beq_eq_false_iff_ne]; omega
    rw [this]
    simp
theorem hdr_succ (n heads : Nat) (l k : Option By) (rest : By) : hdrM (n + 1) heads l k rest = if Lib.index rest crlf = -1 then ([], false)
    else if rest.take (Lib.index rest crlf).toNat = [] then fin1 l k (rest.drop ((Lib.index rest crlf).toNat + 2))
    else if heads = 64 then ([], false)
    else if 58 ∉ rest.take (Lib.index rest crlf).toNat then ([], false)
    else hdrM n (heads + 1) (hLen (rest.take (Lib.index rest crlf).toNat) l) (hKind (rest.take (Lib.index rest crlf).toNat) k) (rest.drop ((Lib.index rest crlf).toNat + 2)) := rfl
theorem hdr_same : ∀ (n n' h h' : Nat) (l k : Option By) (rest : By), rest.length ≤ n → rest.length ≤ n' → h + (lnsF n rest).length ≤ 64 → h' + (lnsF n rest).length ≤ 64 →
    hdrM (n + 1) h l k rest = hdrM (n' + 1) h' l k rest := by
  intro n
  induction n with
  | zero =>
    intro n' h h' l k rest h1 h2 h3 h4
    have : rest = [] := List.eq_nil_of_length_eq_zero (by omega)
    subst this
    rw [hdr_succ 0, hdr_succ n', if_pos (show Lib.index [] crlf = -1 from rfl), if_pos (show Lib.index [] crlf = -1 from rfl)]
  | succ n ih =>
    intro n' h h' l k rest h1 h2 h3 h4
    rw [hdr_succ (n + 1), hdr_succ n']
    by_cases hx : Lib.index rest crlf = -1
    · rw [if_pos hx, if_pos hx]
    · rw [if_neg hx, if_neg hx]
      have hge := Lib.index_ge rest crlf
      have hroom := Lib.index_room rest crlf (by omega)
      have hcl : crlf.length = 2 := rfl
      rw [hcl] at hroom
      rw [lnsF, if_neg hx, List.length_cons] at h3 h4
      rw [if_neg (show ¬ h = 64 by omega), if_neg (show ¬ h' = 64 by omega)]
      split
      · rfl
      · split
        · rfl
        · obtain ⟨m, rfl⟩ : ∃ m, n' = m + 1 := ⟨n' - 1, by omega⟩
          exact ih m (h + 1) (h' + 1) _ _ _ (by rw [List.length_drop]; omega) (by rw [List.length_drop]; omega) (by omega) (by omega)
theorem lns_fuel : ∀ (n m : Nat) (s : By), s.length ≤ n → s.length ≤ m → lnsF n s = lnsF m s := by
  intro n
  induction n with
  | zero =>
    intro m s h1 h2
    have : s = [] := List.eq_nil_of_length_eq_zero (by omega)
    subst this
    cases m with
    | zero => rfl
    | succ m => rw [lnsF, lnsF, if_pos (show Lib.index [] crlf = -1 from rfl)]
  | succ n ih =>
    intro m s h1 h2
    cases m with
    | zero =>
      have : s = [] := List.eq_nil_of_length_eq_zero (by omega)
      subst this
      rw [lnsF, lnsF, if_pos (show Lib.index [] crlf = -1 from rfl)]
    | succ m =>
      rw [lnsF, lnsF]
      split
      · rfl
      · have hge := Lib.index_ge s crlf
        have hroom := Lib.index_room s crlf (by omega)
        have hcl : crlf.length = 2 := rfl
        rw [hcl] at hroom
        rw [ih m _ (by rw [List.length_drop]; omega) (by rw [List.length_drop]; omega)]
/-- A header that says neither length nor kind. -/
def extra (v : By) : By := [88, 45, 89, 58, 32] ++ v
theorem extra_name (v : By) : hName (extra v) = [88, 45, 89] := by
  unfold hName
  have : (Lib.cut (extra v) [58]).1 = [88, 45, 89] := by
    rw [cut_find]
    rfl
  rw [this]
  decide
theorem extra_len (v : By) : hLen (extra v) none = none := by
  unfold hLen
  rw [extra_name]
  rfl
theorem extra_kind (v : By) : hKind (extra v) none = none := by
  unfold hKind
  rw [extra_name]
  rfl
theorem body_more {d v : By} {i : Nat} (hi : Lib.index d crlf = (i : Int)) (hv : 13 ∉ v) (hl : (lnsF d.length d).length ≤ 60) :
    bodyM ((d.take (i + 2) ++ (extra v ++ [13, 10])) ++ d.drop (i + 2)) = bodyM d := by
  have hroom := Lib.index_room d crlf (by omega)
  have hcl : crlf.length = 2 := rfl
  rw [hcl, hi] at hroom
  have hti : Lib.index ((d.take (i + 2) ++ (extra v ++ [13, 10])) ++ d.drop (i + 2)) crlf = (i : Int) := by
    rw [List.append_assoc]
    exact index_app (index_take hi (Nat.le_refl _))
  have htl : (d.take (i + 2)).length = i + 2 := by rw [List.length_take]; omega
  have hf : first ((d.take (i + 2) ++ (extra v ++ [13, 10])) ++ d.drop (i + 2)) = first d := by
    unfold first
    rw [hti, hi, Int.toNat_natCast, List.append_assoc, List.take_append_of_le_length (by omega), List.take_take, Nat.min_eq_left (by omega)]
  have hb : begM ((d.take (i + 2) ++ (extra v ++ [13, 10])) ++ d.drop (i + 2)) = begM d := by
    unfold begM
    rw [hf]
  unfold bodyM
  rw [hb, hti, hi, Int.toNat_natCast]
  by_cases hc : begM d = false
  · rw [if_pos (.inr hc), if_pos (.inr hc)]
  · have h1 : ¬ (((i : Int)) = -1 ∨ begM d = false) := fun e => e.elim (fun e => by omega) hc
    rw [if_neg h1, if_neg h1]
    have hd : ((d.take (i + 2) ++ (extra v ++ [13, 10])) ++ d.drop (i + 2)).drop (i + 2) = extra v ++ 13 :: 10 :: d.drop (i + 2) := by
      rw [List.append_assoc, List.drop_append, htl, Nat.sub_self, List.drop_zero, List.drop_eq_nil_of_le (by omega)]
      simp
    rw [hd]
    have hex : 13 ∉ extra v := by unfold extra; simp [hv]
    have hix : Lib.index (extra v ++ 13 :: 10 :: d.drop (i + 2)) crlf = ((extra v).length : Int) := index_line hex
    obtain ⟨m, hm⟩ : ∃ m, d.length = m + 1 := ⟨d.length - 1, by omega⟩
    have hnl : ((d.take (i + 2) ++ (extra v ++ [13, 10])) ++ d.drop (i + 2)).length = ((m + v.length + 6) + 1) + 1 := by
      simp [extra]
      omega
    rw [hnl, hdr_succ, hix, Int.toNat_natCast]
    rw [if_neg (by omega), List.take_left, if_neg (show ¬ extra v = [] by unfold extra; simp), if_neg (show ¬ (0 : Nat) = 64 by decide), if_neg (show ¬ 58 ∉ extra v by unfold extra; simp), extra_len, extra_kind]
    have hdr : (extra v ++ 13 :: 10 :: d.drop (i + 2)).drop ((extra v).length + 2) = d.drop (i + 2) := by
      rw [List.drop_append, List.drop_eq_nil_of_le (by omega)]
      simp
    rw [hdr, hm]
    have hln : (lnsF (m + v.length + 6) (d.drop (i + 2))).length ≤ 59 := by
      rw [hm, lnsF, if_neg (by omega), hi, Int.toNat_natCast, List.length_cons] at hl
      rw [lns_fuel (m + v.length + 6) m _ (by rw [List.length_drop]; omega) (by rw [List.length_drop]; omega)]
      omega
    exact hdr_same (m + v.length + 6) m 1 0 none none _ (by rw [List.length_drop]; omega) (by rw [List.length_drop]; omega) (by omega) (by omega)
/-! ### The law -/
theorem no_loop {d v : By} (hv : v.length ≤ 1048576) : ∀ k i, i + k = v.length → 13 ∉ v.take i →
    law20_SipHeaders_p21 (d, v, (i : Int)) = some (.inr true) ∨ (law20_SipHeaders_p21 (d, v, (i : Int)) = some (.inl (d, v)) ∧ 13 ∉ v) := by
  intro k
  induction k with
  | zero =>
    intro i h1 h2
    refine .inr ⟨?_, by rwa [List.take_of_length_le (by omega)] at h2⟩
    unfold law20_SipHeaders_p21
    refine iter_end ?_
    unfold law20_SipHeaders_p21b
    rw [bif_ndec (by simp only; omega)]
  | succ k ih =>
    intro i h1 h2
    have hi : i < v.length := by omega
    have e1 : IntKind.i64.wrap ((i : Int) + 1) = ((i + 1 : Nat) : Int) := by rw [wrap_i64 (by omega) (by omega)]; omega
    have z1 : decide ((0 : Int) ≤ (i : Int)) = true := decide_eq_true (by omega)
    have z2 : decide ((i : Int) < (v.length : Int)) = true := decide_eq_true (by omega)
    have b13 : (((v[i].toNat : Nat) : Int) == 13) = decide (v[i] = 13) := byte_is v[i] 13
    have b10 : (((v[i].toNat : Nat) : Int) == 10) = decide (v[i] = 10) := byte_is v[i] 10
    by_cases h13 : v[i] = 13
    · left
      unfold law20_SipHeaders_p21
      refine iter_end ?_
      unfold law20_SipHeaders_p21b
      simp only
      rw [z1, z2, bL_at hi, b13, decide_eq_true h13, alive_ok]
      rfl
    · by_cases h10 : v[i] = 10
      · left
        unfold law20_SipHeaders_p21
        refine iter_end ?_
        unfold law20_SipHeaders_p21b
        simp only
        rw [z1, z2, bL_at hi, b13, decide_eq_false h13, b10, decide_eq_true h10, alive_ok]
        rfl
      · have st : law20_SipHeaders_p21b (d, v, (i : Int)) = some (.inl (d, v, ((i + 1 : Nat) : Int))) := by
          unfold law20_SipHeaders_p21b
          simp only
          rw [z1, z2, bL_at hi, b13, decide_eq_false h13, b10, decide_eq_false h10, e1]
          rfl
        unfold law20_SipHeaders_p21
        rw [iter_go st]
        refine ih (i + 1) (by omega) ?_
        rw [List.take_succ_eq_append_getElem hi]
        intro e
        rcases List.mem_append.1 e with e | e
        · exact h2 e
        · exact h13 (List.mem_singleton.1 e).symm
theorem sipHeaders_ok (y0 y1 : By) (k0 : okT (.sl .u8) y0 ∧ bulkT (.sl .u8) y0 ≤ 1048576) (k1 : okT .str y1 ∧ bulkT .str y1 ≤ 1048576) : law20_SipHeaders y0 y1 = some true := by
  have hs := bulk_bytes k0.2
  have hv : y1.length ≤ 1048576 := by
    have h : y1.length + 1 ≤ 1048576 := k1.2
    omega
  unfold law20_SipHeaders
  rcases no_loop (d := y0) hv y1.length 0 (by omega) (by simp) with h | ⟨h, h13⟩
  · rw [show ((0 : Int)) = ((0 : Nat) : Int) from rfl, h]
    rfl
  · rw [show ((0 : Int)) = ((0 : Nat) : Int) from rfl, h]
    simp only [Option.bind_some, Sum.elim_inl]
    rw [ref_lines_eq (by omega)]
    simp only [Option.bind_some]
    unfold law20_SipHeaders_p23
    simp only
    rw [alive_ok]
    by_cases h0 : (lnsF y0.length y0).length = 0
    · rw [h0]; rfl
    · rw [show (((lnsF y0.length y0).length : Int) == 0) = false by rw [beq_eq_false_iff_ne]; omega, cond_false]
      by_cases h60 : ((lnsF y0.length y0).length : Int) > 60
      · rw [bif_dec h60]; rfl
      · rw [bif_ndec h60]
        simp only [Option.bind_some, Sum.elim_inl]
        have hix : Lib.index y0 crlf ≠ -1 := by
          intro e
          cases hn : y0.length with
          | zero => rw [hn] at h0; exact h0 rfl
          | succ n => rw [hn, lnsF, if_pos e] at h0; exact h0 rfl
        have hge := Lib.index_ge y0 crlf
        obtain ⟨i, hi⟩ : ∃ i : Nat, Lib.index y0 crlf = (i : Int) := ⟨(Lib.index y0 crlf).toNat, by omega⟩
        have hroom := Lib.index_room y0 crlf (by omega)
        have hcl : crlf.length = 2 := rfl
        rw [hcl, hi] at hroom
        have hget : (lnsF y0.length y0)[0]? = some (y0.take i) := by
          obtain ⟨m, hm⟩ : ∃ m, y0.length = m + 1 := ⟨y0.length - 1, by omega⟩
          rw [hm, lnsF, if_neg hix, hi, Int.toNat_natCast]
          rfl
        rw [hget]
        simp only [Option.bind_some]
        have hw : IntKind.i64.wrap (((y0.take i).length : Int) + 2) = ((i + 2 : Nat) : Int) := by
          rw [List.length_take, Nat.min_eq_left (by omega), wrap_i64 (by omega) (by omega)]; omega
        rw [hw, Int.toNat_natCast, Nat.sub_zero]
        have z1 : decide ((0 : Int) ≤ ((i + 2 : Nat) : Int)) = true := decide_eq_true (by omega)
        have z2 : decide (((i + 2 : Nat) : Int) ≤ (y0.length : Int)) = true := decide_eq_true (by omega)
        have hd : (y0.drop (i + 2)).take (y0.length - (i + 2)) = y0.drop (i + 2) := List.take_of_length_le (by rw [List.length_drop]; exact Nat.le_refl _)
        have htl : (y0.take (i + 2)).length = i + 2 := by rw [List.length_take]; omega
        have hexl : ((([88, 45, 89, 58, 32] : List UInt8) ++ y1) ++ ([13, 10] : List UInt8)).length = y1.length + 7 := by simp <;> omega
        simp only [z1, z2, cond_true, hd]
        rw [bif_dec (show 5 + y1.length < 2 ^ 62 by omega), bif_dec (show (([88, 45, 89, 58, 32] : List UInt8) ++ y1).length + 2 < 2 ^ 62 by simp <;> omega),
          fits_of (by omega) (by decide), fits_of (by omega) (by decide), fits_of (by rw [List.length_append, hexl, List.length_drop]; omega) (by decide)]
        simp only [cond_true]
        have hmore := body_more hi h13 (by omega)
        unfold extra at hmore
        have ha : asksM ((y0.take (i + 2) ++ (([88, 45, 89, 58, 32] ++ y1) ++ [13, 10])) ++ y0.drop (i + 2)) = asksM y0 := by
          unfold asksM
          rw [hmore]
        rw [sip_Asks_eq (d := y0) (by omega), sip_Asks_eq (by rw [List.length_append, List.length_append, hexl, List.length_drop]; omega), ha]
        simp only [Option.bind_some]
        have := asksM_len y0
        rw [same_self (by omega)]
        rfl
end Go.Proofs.YtfaofikhabccoaaGreatDoor.Jv
