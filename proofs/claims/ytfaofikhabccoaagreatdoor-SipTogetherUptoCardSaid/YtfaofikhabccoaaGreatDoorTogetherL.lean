/- Media one by one and together; conditions: none. -/
import Derived.Test.YtfaofikhabccoaaGreatDoorDigits20
namespace Go.Proofs.YtfaofikhabccoaaGreatDoor.Jv
open Go A
set_option linter.unusedSectionVars false
set_option linter.unusedVariables false
set_option linter.unusedSimpArgs false
def c4 : By := [99, 61, 73, 78, 32, 73, 80, 52, 32, 49, 48, 46, 48, 46, 48, 46, 49]
def c6 : By := [99, 61, 73, 78, 32, 73, 80, 54, 32, 50, 48, 48, 49, 58, 100, 98, 56, 58, 58, 49]
def rtp : By := [32, 82, 84, 80, 47, 65, 86, 80, 32, 48]
def kW (i : Nat) : By := if i % 2 = 0 then [109, 61, 97, 117, 100, 105, 111, 32] else [109, 61, 118, 105, 100, 101, 111, 32]
def mline (i p : Nat) : By := (kW i ++ dgF 5 p) ++ rtp
def joinT : List By → By
  | [] => []
  | l :: L => l ++ 13 :: 10 :: joinT L
theorem joinT_app : ∀ A B : List By, joinT (A ++ B) = joinT A ++ joinT B
  | [], B => rfl
  | l :: A, B => by
    rw [List.cons_append, joinT, joinT, joinT_app A B]
    simp
theorem tr13_end (l : By) : tr13 (l ++ [13]) = l := by
  unfold tr13
  have : sfx (l ++ [13]) [13] = true := by
    unfold sfx
    simp
  rw [this, if_pos rfl]
  simp
theorem trA_join : ∀ L : List By, (∀ l ∈ L, 10 ∉ l) → trA (spl 10 (joinT L)) = L ++ [[]]
  | [], _ => rfl
  | l :: L, h => by
    have ih := trA_join L fun x hx => h x (List.mem_cons_of_mem _ hx)
    have e : joinT (l :: L) = (l ++ [13]) ++ 10 :: joinT L := by rw [joinT]; simp
    have hl : 10 ∉ l ++ [13] := by
      rw [List.mem_append]
      exact fun e => e.elim (h l List.mem_cons_self) (by decide)
    rw [e, spl_app, spl_none hl]
    cases hs : spl 10 (joinT L) with
    | nil => exact absurd hs (spl_ne _ _)
    | cons y r =>
      rw [hs] at ih
      show tr13 (l ++ [13]) :: trA (y :: r) = l :: L ++ [[]]
      rw [tr13_end, ih]
      rfl
theorem step_nil (st : Sta) : stepM st [] = st := rfl
theorem endM_join {L : List By} (h : ∀ l ∈ L, 10 ∉ l) : endM (joinT L) = L.foldl stepM (zA, []) := by
  unfold endM
  rw [trA_join L h, List.foldl_append]
  rfl
def a4 : Ad := (4, 0, 167772161)
theorem addr4_ : addrM c4 = (a4, true) := by decide +kernel
theorem addr6_ : (addrM c6).2 = true := by decide +kernel
theorem step_c4 : stepM (zA, []) c4 = (a4, []) := by
  unfold stepM
  rw [addr4_]
  rfl
def medO (i p : Nat) : Med := ((p : Int), if i % 3 = 2 then (addrM c6).1 else zA)
def linesO (i p : Nat) : List By := mline i p :: (if i % 3 = 2 then [c6] else [])
theorem ixb_at : ∀ {p q : By} {c : UInt8}, c ∉ p → Lib.indexByte (p ++ c :: q) c = (p.length : Int)
  | [], q, c, _ => by
    rw [List.nil_append, Lib.indexByte, if_pos (by simp)]
    rfl
  | b :: p, q, c, h => by
    have h1 : (b == c) = false := by rw [beq_eq_false_iff_ne]; exact fun e => h (by rw [e]; simp)
    have ih := ixb_at (p := p) (q := q) (c := c) (fun e => h (List.mem_cons_of_mem _ e))
    have h2 : ((p.length : Int) == -1) = false := by rw [beq_eq_false_iff_ne]; omega
    rw [List.cons_append, Lib.indexByte, h1, if_neg Bool.false_ne_true, ih, h2]
    simp
theorem port_dig {p : Nat} (hp : p ≤ 65535) : portS (dgF 5 p ++ rtp) = (p : Int) := by
  have h32 : (32 : UInt8) ∉ dgF 5 p := fun h => by
    have := dgF_in 5 p _ h
    simp at this
  have e : dgF 5 p ++ rtp = dgF 5 p ++ 32 :: [82, 84, 80, 47, 65, 86, 80, 32, 48] := rfl
  have hi := ixb_at (p := dgF 5 p) (q := [82, 84, 80, 47, 65, 86, 80, 32, 48]) h32
  have h1 : (Lib.cut (dgF 5 p ++ 32 :: ([82, 84, 80, 47, 65, 86, 80, 32, 48] : By)) [32]).1 = dgF 5 p := by
    rw [cut_find, hi, if_pos (by omega), Int.toNat_natCast, List.take_left]
  have h2 : (Lib.cut (dgF 5 p ++ 32 :: ([82, 84, 80, 47, 65, 86, 80, 32, 48] : By)) [32]).2.1 = [82, 84, 80, 47, 65, 86, 80, 32, 48] := by
    rw [cut_find2, hi, if_pos (by omega), Int.toNat_natCast, List.drop_append, List.drop_eq_nil_of_le (by omega)]
    simp
  rw [e]
  unfold portS
  rw [h1, h2, if_neg (by decide), dec_dgF (k := 4) (by omega) hp]
theorem step_m (st : Sta) (i : Nat) {p : Nat} (hp : p ≤ 65535) : stepM st (mline i p) = (st.1, st.2 ++ [((p : Int), zA)]) := by
  unfold stepM mline kW
  by_cases h : i % 2 = 0
  · rw [if_pos h]
    have e1 : pfx (([109, 61, 97, 117, 100, 105, 111, 32] ++ dgF 5 p) ++ rtp) [109, 61] = true := rfl
    rw [e1, if_pos rfl]
    have e2 : portM ((([109, 61, 97, 117, 100, 105, 111, 32] ++ dgF 5 p) ++ rtp).drop 2) = portS (dgF 5 p ++ rtp) := rfl
    rw [e2, port_dig hp]
  · rw [if_neg h]
    have e1 : pfx (([109, 61, 118, 105, 100, 101, 111, 32] ++ dgF 5 p) ++ rtp) [109, 61] = true := rfl
    rw [e1, if_pos rfl]
    have e2 : portM ((([109, 61, 118, 105, 100, 101, 111, 32] ++ dgF 5 p) ++ rtp).drop 2) = portS (dgF 5 p ++ rtp) := rfl
    rw [e2, port_dig hp]
theorem step_c6 (M : List Med) (x : Int) : stepM (a4, M ++ [(x, zA)]) c6 = (a4, M ++ [(x, (addrM c6).1)]) := by
  unfold stepM
  have e1 : pfx c6 [109, 61] = false := rfl
  rw [e1, if_neg Bool.false_ne_true, if_pos addr6_, if_neg (by simp)]
  unfold setLast
  simp only [List.getLast?_append, List.getLast?_singleton, Option.some_or, List.dropLast_concat]
  rfl
theorem fold_lines (M : List Med) (i : Nat) {p : Nat} (hp : p ≤ 65535) : (linesO i p).foldl stepM (a4, M) = (a4, M ++ [medO i p]) := by
  unfold linesO medO
  by_cases h : i % 3 = 2
  · rw [if_pos h, if_pos h, List.foldl_cons, step_m _ i hp, List.foldl_cons, step_c6]
    rfl
  · rw [if_neg h, if_neg h, List.foldl_cons, step_m _ i hp]
    rfl
theorem mline_no (i p : Nat) : 10 ∉ mline i p := by
  unfold mline kW
  intro h
  rcases List.mem_append.1 h with h | h
  · rcases List.mem_append.1 h with h | h
    · split at h <;> revert h <;> decide
    · have := dgF_in 5 p _ h
      simp at this
  · revert h; decide
theorem linesO_no (i p : Nat) : ∀ l ∈ linesO i p, 10 ∉ l := by
  intro l hl
  unfold linesO at hl
  rcases List.mem_cons.1 hl with e | e
  · rw [e]; exact mline_no i p
  · split at e
    · rw [List.mem_singleton.1 e]; decide
    · cases e
theorem outs_app (a : Ad) (A B : List Med) : outs a (A ++ B) = outs a A ++ outs a B := by
  unfold outs
  rw [List.filterMap_append]
theorem outs_len (a : Ad) (A : List Med) : (outs a A).length ≤ A.length := by
  unfold outs
  exact List.length_filterMap_le _ _
/-- The media of what was joined. -/
theorem media_join {L : List By} {M : List Med} (h : ∀ l ∈ L, 10 ∉ l) (hf : L.foldl stepM (a4, []) = (a4, M)) (hM : M.length ≤ 8) : mediaM (joinT (c4 :: L)) = outs a4 M := by
  have h' : ∀ l ∈ c4 :: L, 10 ∉ l := fun l hl => by
    rcases List.mem_cons.1 hl with e | e
    · rw [e]; decide
    · exact h l e
  unfold mediaM
  rw [endM_join h', List.foldl_cons, step_c4, hf]
  have := outs_len a4 M
  exact List.take_of_length_le (by simp only; omega)
theorem join_len (i p : Nat) : (joinT (linesO i p)).length ≤ 60 := by
  have := dgF_len 5 p
  have hk : (kW i).length = 8 := by unfold kW; split <;> rfl
  unfold linesO mline
  split
  · simp only [joinT, List.length_append, List.length_cons, hk, show rtp.length = 10 from rfl, show c6.length = 20 from rfl, List.length_nil]
    omega
  · simp only [joinT, List.length_append, List.length_cons, hk, show rtp.length = 10 from rfl, List.length_nil]
    omega
/-! ### The digits' loop -/
theorem tog_step {a t : By} {j : Int} {n : Nat} {acc : By} {f : Bool} {ps : List Int} {u v : Int} {out : List Ask} (hf : f = true ∨ 0 < n) (h2 : n ≤ 1048576) (h3 : acc.length ≤ 1048576) :
    law20_SipTogether_p714335b (a, t, j, (n : Int), acc, f, ps, u, v, out) = some (.inl (a, t, j, ((n / 10 : Nat) : Int), dg (n % 10) :: acc, false, ps, u, v, out)) := by
  unfold law20_SipTogether_p714335b
  simp only
  rw [dig_digit, dig_tenth h2, bif_dec (show ([dg (n % 10)] : By).length + acc.length < 2 ^ 62 by simp; omega)]
  cases f with
  | true => rfl
  | false =>
    have hn : 0 < n := hf.elim (fun e => Bool.noConfusion e) id
    rw [bif_dec (show (n : Int) > 0 by omega)]
    rfl
theorem tog_loop {a t : By} {j : Int} {ps : List Int} {u v : Int} {out : List Ask} : ∀ (k n : Nat) (acc : By) (f : Bool), (f = true ∨ 0 < n) → n < 10 ^ (k + 1) → n ≤ 1048576 → acc.length + k ≤ 1048576 →
    law20_SipTogether_p714335 (a, t, j, (n : Int), acc, f, ps, u, v, out) = some (a, t, j, dgF (k + 1) n ++ acc, ps, u, v, out) := by
  have fin : ∀ (n : Nat) (acc : By), n < 10 → law20_SipTogether_p714335b (a, t, j, ((n / 10 : Nat) : Int), acc, false, ps, u, v, out) = some (.inr (a, t, j, acc, ps, u, v, out)) := fun n acc h => by
    unfold law20_SipTogether_p714335b
    simp only [cond_false]
    rw [bif_ndec (by omega)]
  intro k
  induction k with
  | zero =>
    intro n acc f hf h1 h2 h3
    have h10 : n < 10 := by simpa using h1
    unfold law20_SipTogether_p714335
    rw [iter_go (tog_step hf h2 (by omega)), iter_end (fin n _ h10), dgF_small h10]
    rfl
  | succ k ih =>
    intro n acc f hf h1 h2 h3
    by_cases h10 : n < 10
    · unfold law20_SipTogether_p714335
      rw [iter_go (tog_step hf h2 (by omega)), iter_end (fin n _ h10), dgF_small h10]
      rfl
    · unfold law20_SipTogether_p714335
      rw [iter_go (tog_step hf h2 (by omega))]
      have := ih (n / 10) (dg (n % 10) :: acc) false (.inr (by omega)) (by rw [Nat.pow_succ] at h1; omega) (by omega) (by simp; omega)
      unfold law20_SipTogether_p714335 at this
      rw [this, dgF_big h10, List.append_assoc]
      rfl
/-! ### The law -/
def lnJ (i : Nat) (p : Nat) : List By := c4 :: linesO i p
theorem and_one : ∀ i : Nat, i < 8 → iand .i64 (i : Int) 1 = ((i % 2 : Nat) : Int) := by decide +kernel
theorem mod_three : ∀ i : Nat, i < 8 → (Int.tmod (i : Int) 3 == 2) = decide (i % 3 = 2) := by decide +kernel
theorem kW_at (i : Nat) : (([[109, 61, 97, 117, 100, 105, 111, 32], [109, 61, 118, 105, 100, 101, 111, 32]] : List By)[((i % 2 : Nat) : Int).toNat]?) = some (kW i) := by
  unfold kW
  rw [Int.toNat_natCast]
  rcases Nat.mod_two_eq_zero_or_one i with h | h <;> rw [h] <;> rfl
theorem tog_turn {ps : List Int} (hps : ∀ x ∈ ps, 0 ≤ x ∧ x ≤ 65535) (h8 : ps.length ≤ 8) {i : Nat} (hi : i < ps.length) {L : List By} {M : List Med} (hn : ∀ l ∈ L, 10 ∉ l) (hf : L.foldl stepM (a4, []) = (a4, M)) (hM : M.length = i) (hl : (joinT L).length ≤ 60 * i) :
    ∃ p : Nat, p ≤ 65535 ∧ law20_SipTogether_p351b (joinT [c4], joinT (c4 :: L), ps, (ps.length : Int), (i : Int), outs a4 M) = some (.inl (joinT [c4], joinT (c4 :: (L ++ linesO i p)), ps, (ps.length : Int), ((i + 1 : Nat) : Int), outs a4 (M ++ [medO i p]))) := by
  obtain ⟨g0, g1⟩ := hps _ (List.getElem_mem hi)
  obtain ⟨p, hp⟩ : ∃ p : Nat, ps[i] = (p : Int) := ⟨ps[i].toNat, by omega⟩
  have hpl : p ≤ 65535 := by omega
  refine ⟨p, hpl, ?_⟩
  have hD := dgF_len 5 p
  have hk : (kW i).length = 8 := by unfold kW; split <;> rfl
  have e1 : IntKind.i64.wrap ((i : Int) + 1) = ((i + 1 : Nat) : Int) := by rw [wrap_i64 (by omega) (by omega)]; omega
  have hj : (joinT (c4 :: L)).length ≤ 500 := by
    rw [joinT, List.length_append, List.length_cons, List.length_cons, show c4.length = 17 from rfl]
    omega
  have hol := outs_len a4 M
  have hone : mediaM (joinT (c4 :: linesO i p)) = outs a4 [medO i p] := media_join (linesO_no i p) (by rw [fold_lines [] i hpl]; rfl) (by simp)
  have hol1 := outs_len a4 [medO i p]
  have hj1 := join_len i p
  have hjc : (joinT (c4 :: linesO i p)).length ≤ 500 := by
    rw [joinT, List.length_append, List.length_cons, List.length_cons, show c4.length = 17 from rfl]
    omega
  have hmed : sip_Media (joinT (c4 :: linesO i p)) = some (outs a4 [medO i p]) := by rw [sip_Media_eq (by omega), hone]
  have hsplit : joinT (c4 :: (L ++ linesO i p)) = joinT (c4 :: L) ++ joinT (linesO i p) := by rw [← List.cons_append, joinT_app]
  have hpre : joinT (c4 :: linesO i p) = joinT [c4] ++ joinT (linesO i p) := by rw [← joinT_app]; rfl
  have hpl4 : (joinT [c4]).length = 19 := rfl
  rw [hsplit, outs_app]
  unfold law20_SipTogether_p351b
  simp only
  rw [bif_dec (by omega), bif_dec (by omega), Int.toNat_natCast, List.getElem?_eq_getElem hi, hp]
  simp only [Option.bind_some]
  rw [wrap_i64 (by omega) (by omega), tog_loop 4 p [] true (.inl rfl) (by omega) (by omega) (by simp)]
  simp only [Option.bind_some, List.append_nil, Nat.reduceAdd]
  rw [and_one i (by omega), bif_dec (by omega), bif_dec (by omega), kW_at, mod_three i (by omega)]
  simp only [Option.bind_some]
  rw [bif_dec (by omega), bif_dec (by rw [List.length_append]; omega), e1]
  have hl12 : ((kW i ++ dgF 5 p) ++ ([32, 82, 84, 80, 47, 65, 86, 80, 32, 48, 13, 10] : By)).length = (dgF 5 p).length + 20 := by
    rw [List.length_append, List.length_append, hk]
    show 8 + (dgF 5 p).length + 12 = _
    omega
  by_cases h3 : i % 3 = 2
  · have hjo : joinT (linesO i p) = ((kW i ++ dgF 5 p) ++ ([32, 82, 84, 80, 47, 65, 86, 80, 32, 48, 13, 10] : By)) ++ ([99, 61, 73, 78, 32, 73, 80, 54, 32, 50, 48, 48, 49, 58, 100, 98, 56, 58, 58, 49, 13, 10] : By) := by
      unfold linesO mline
      rw [if_pos h3]
      simp [joinT, rtp, c6]
    rw [decide_eq_true h3]
    simp only [cond_true]
    rw [← hjo, bif_dec (by rw [hl12]; omega), bif_dec (by omega), bif_dec (by omega), ← hpre, hmed]
    simp only [Option.bind_some]
    rw [fits_ask (by simp at hol1; omega)]
    rfl
  · have hjo : joinT (linesO i p) = (kW i ++ dgF 5 p) ++ ([32, 82, 84, 80, 47, 65, 86, 80, 32, 48, 13, 10] : By) := by
      unfold linesO mline
      rw [if_neg h3]
      simp [joinT, rtp]
    rw [decide_eq_false h3]
    simp only [cond_false]
    rw [← hjo, bif_dec (by omega), bif_dec (by omega), ← hpre, hmed]
    simp only [Option.bind_some]
    rw [fits_ask (by simp at hol1; omega)]
    rfl
theorem tog_turns {ps : List Int} (hps : ∀ x ∈ ps, 0 ≤ x ∧ x ≤ 65535) (h8 : ps.length ≤ 8) : ∀ (k i : Nat) (L : List By) (M : List Med), i + k = ps.length → (∀ l ∈ L, 10 ∉ l) → L.foldl stepM (a4, []) = (a4, M) → M.length = i → (joinT L).length ≤ 60 * i →
    ∃ (L' : List By) (M' : List Med), law20_SipTogether_p351 (joinT [c4], joinT (c4 :: L), ps, (ps.length : Int), (i : Int), outs a4 M) = some (joinT (c4 :: L'), outs a4 M') ∧ (∀ l ∈ L', 10 ∉ l) ∧ L'.foldl stepM (a4, []) = (a4, M') ∧ M'.length ≤ 8 ∧ (joinT L').length ≤ 480 := by
  intro k
  induction k with
  | zero =>
    intro i L M h1 h2 h3 h4 h5
    refine ⟨L, M, ?_, h2, h3, by omega, by omega⟩
    unfold law20_SipTogether_p351
    refine iter_end ?_
    unfold law20_SipTogether_p351b
    rw [bif_ndec (by simp only; omega)]
  | succ k ih =>
    intro i L M h1 h2 h3 h4 h5
    have hi : i < ps.length := by omega
    obtain ⟨p, hp, st⟩ := tog_turn hps h8 hi h2 h3 h4 h5
    have hj := join_len i p
    obtain ⟨L', M', g1, g2⟩ := ih (i + 1) (L ++ linesO i p) (M ++ [medO i p]) (by omega)
      (fun l hl => (List.mem_append.1 hl).elim (h2 l) (linesO_no i p l)) (by rw [List.foldl_append, h3, fold_lines _ i hp]) (by simp [h4]) (by rw [joinT_app, List.length_append]; omega)
    refine ⟨L', M', ?_, g2⟩
    unfold law20_SipTogether_p351 at g1 ⊢
    rw [iter_go st]
    exact g1
theorem sipTogether_ok (y0 : List Int) (k0 : okT (.sl (.int .u16)) y0 ∧ bulkT (.sl (.int .u16)) y0 ≤ 1048576) : law20_SipTogether y0 = some true := by
  have hps : ∀ x ∈ y0, 0 ≤ x ∧ x ≤ 65535 := fun x hx => k0.1.2 x hx
  unfold law20_SipTogether
  rw [alive_ok]
  by_cases h8 : (y0.length : Int) > 8
  · rw [bif_dec h8]; rfl
  rw [bif_ndec h8]
  obtain ⟨L, M, g1, g2, g3, g4, g5⟩ := tog_turns hps (by omega) y0.length 0 [] [] (by omega) (by simp) rfl rfl (by simp [joinT])
  have hl : (joinT (c4 :: L)).length ≤ 600 := by
    rw [joinT, List.length_append, List.length_cons, List.length_cons, show c4.length = 17 from rfl]
    omega
  have g1' : law20_SipTogether_p351 ([99, 61, 73, 78, 32, 73, 80, 52, 32, 49, 48, 46, 48, 46, 48, 46, 49, 13, 10], [99, 61, 73, 78, 32, 73, 80, 52, 32, 49, 48, 46, 48, 46, 48, 46, 49, 13, 10], y0, (y0.length : Int), 0, []) = some (joinT (c4 :: L), outs a4 M) := g1
  rw [g1']
  simp only [Option.bind_some]
  have ho := outs_len a4 M
  rw [sip_Media_eq (by omega), media_join g2 g3 g4]
  simp only [Option.bind_some]
  rw [same_self (by omega)]
  rfl
end Go.Proofs.YtfaofikhabccoaaGreatDoor.Jv
