/- Layer 19: both texts read any bytes as one plain reading says; conditions: none. -/
import Derived.Test.YtdhogcppmnfekaaDoorTftp
namespace Go.Proofs.YtdhogcppmnfekaaDoor.Jv
open Go
set_option linter.unusedVariables false
set_option linter.unusedSimpArgs false
/-! ### Small letters -/
def lowB (c : UInt8) : UInt8 := if 65 ≤ c.toNat ∧ c.toNat ≤ 90 then c + 32 else c
theorem lowB_nat (c : UInt8) : (lowB c).toNat = if 65 ≤ c.toNat ∧ c.toNat ≤ 90 then c.toNat + 32 else c.toNat := by
  unfold lowB
  split
  · rw [UInt8.toNat_add]
    have : (32 : UInt8).toNat = 32 := rfl
    omega
  · rfl
theorem encode_ascii {r : Nat} (h : r < 128) : Lib.encodeRune (r : Int) = [UInt8.ofNat r] := by
  unfold Lib.encodeRune
  rw [Lib.encodeRuneZ_one (by omega) (by omega)]
  simp
theorem mapD_ascii : ∀ s : By, (∀ c ∈ s, c.toNat < 128) → Lib.mapD lowR s = s.map lowB
  | [], _ => rfl
  | b :: t, h => by
    have hb := h b (by simp)
    rw [Lib.mapD_step _ _ (by simp), Lib.decodeL_ascii b t hb]
    simp only [List.drop_succ_cons, List.drop_zero, List.map_cons]
    rw [mapD_ascii t fun c hc => h c (by simp [hc])]
    have e : lowR (b.toNat : Int) = ((lowB b).toNat : Int) := by
      rw [lowB_nat]
      unfold lowR
      split <;> split <;> omega
    rw [e, if_pos (by omega), encode_ascii (by rw [lowB_nat]; split <;> omega)]
    simp
theorem encode_big {r : Nat} (h : 128 ≤ r) : ∃ c l, Lib.encodeRune (r : Int) = c :: l ∧ 128 ≤ c.toNat := by
  have big : ∀ x : Int, 128 ≤ x → x < 256 → 128 ≤ (x.toNat.toUInt8).toNat := fun x h0 h1 => by
    simp
    omega
  unfold Lib.encodeRune Lib.encodeRuneZ
  rw [if_neg (by omega)]
  split
  · exact ⟨_, _, rfl, big _ (by omega) (by omega)⟩
  · split
    · exact ⟨_, _, rfl, big _ (by omega) (by omega)⟩
    · split
      · exact ⟨_, _, rfl, big _ (by omega) (by omega)⟩
      · exact ⟨_, _, rfl, big _ (by omega) (by omega)⟩
theorem decode_big {b : UInt8} {t : By} (h : 128 ≤ b.toNat) : 128 ≤ (Lib.decodeL (b :: t)).1 := by
  by_cases hv : (Lib.decodeL (b :: t)).1 = 65533 ∧ (Lib.decodeL (b :: t)).2 = 1
  · omega
  · have h1 := Lib.encode_decode (b :: t) (by simp) hv
    rcases Nat.lt_or_ge (Lib.decodeL (b :: t)).1 128 with hlt | hge
    · rw [encode_ascii hlt] at h1
      have h2 := Lib.decodeL_width (b :: t)
      obtain ⟨k, hk⟩ : ∃ k, (Lib.decodeL (b :: t)).2 = k + 1 := ⟨_, (Nat.sub_add_cancel h2).symm⟩
      rw [hk, List.take_succ_cons] at h1
      have h3 := (List.cons.inj h1).1
      rw [← h3] at h
      rw [UInt8.toNat_ofNat'] at h
      omega
    · exact hge
theorem mapD_big : ∀ s : By, (∃ c ∈ s, 128 ≤ c.toNat) → ∃ c ∈ Lib.mapD lowR s, 128 ≤ c.toNat
  | [], h => by obtain ⟨c, hc, _⟩ := h; cases hc
  | b :: t, h => by
    rw [Lib.mapD_step _ _ (by simp)]
    rcases Nat.lt_or_ge b.toNat 128 with hb | hb
    · rw [Lib.decodeL_ascii b t hb]
      simp only [List.drop_succ_cons, List.drop_zero]
      obtain ⟨c, hc, h1⟩ := h
      rcases List.mem_cons.1 hc with e | e
      · subst e; omega
      · obtain ⟨d, hd, h2⟩ := mapD_big t ⟨c, e, h1⟩
        exact ⟨d, List.mem_append_right _ hd, h2⟩
    · have h1 := decode_big (t := t) hb
      have e : lowR ((Lib.decodeL (b :: t)).1 : Int) = ((Lib.decodeL (b :: t)).1 : Int) := by
        unfold lowR
        rw [if_neg (by omega)]
      rw [e, if_pos (by omega)]
      obtain ⟨c, l, h2, h3⟩ := encode_big h1
      rw [h2]
      exact ⟨c, by simp, h3⟩
/-! ### Modes -/
abbrev mOctet : By := [111, 99, 116, 101, 116]
abbrev mNet : By := [110, 101, 116, 97, 115, 99, 105, 105]
abbrev mMail : By := [109, 97, 105, 108]
def isMode (r : By) : Bool := r == mOctet || (r == mNet || r == mMail)
theorem isMode_ascii {r : By} (h : isMode r = true) : ∀ c ∈ r, c.toNat < 128 := by
  unfold isMode at h
  simp only [Bool.or_eq_true, beq_iff_eq] at h
  rcases h with rfl | rfl | rfl <;> decide
theorem low_modes (m : By) : isMode (Lib.mapD lowR m) = isMode (m.map lowB) ∧ (isMode (m.map lowB) = true → Lib.mapD lowR m = m.map lowB) := by
  by_cases h : ∀ c ∈ m, c.toNat < 128
  · rw [mapD_ascii m h]; exact ⟨rfl, fun _ => rfl⟩
  · have hx : ∃ c ∈ m, 128 ≤ c.toNat := Classical.byContradiction fun hn => h fun c hc => by
      rcases Nat.lt_or_ge c.toNat 128 with h1 | h1
      · exact h1
      · exact absurd ⟨c, hc, h1⟩ hn
    obtain ⟨d, hd, h1⟩ := mapD_big m hx
    obtain ⟨c, hc, h2⟩ := hx
    have e1 : isMode (Lib.mapD lowR m) = false := by
      cases hm : isMode (Lib.mapD lowR m) with
      | false => rfl
      | true => have := isMode_ascii hm d hd; omega
    have e2 : isMode (m.map lowB) = false := by
      cases hm : isMode (m.map lowB) with
      | false => rfl
      | true =>
        have := isMode_ascii hm (lowB c) (List.mem_map_of_mem hc)
        rw [lowB_nat] at this
        split at this <;> omega
    rw [e1, e2]
    exact ⟨rfl, fun h => by cases h⟩
theorem small_eq {m : By} (h : m.length < 4294967281) : tftp_small m = some (Lib.mapD lowR m) := by
  unfold tftp_small strings_Map
  rw [decide_eq_true (by omega)]
  rfl
theorem mode_eq (r : By) : ref19_mode r = some (isMode r) := by
  unfold ref19_mode isMode
  cases r == mOctet <;> cases r == mNet <;> simp
theorem has_mode (r : By) : slices_Contains_string_string [mOctet, mNet, mMail] r = some (isMode r) := by
  have s0 : ∀ (i : Nat) (e : By), i < 3 → ([mOctet, mNet, mMail] : List By)[i]? = some e → slices_Index_string_string_p21b ([mOctet, mNet, mMail], r, 3, (i : Int)) = some (if r == e then .inr (.inr (i : Int)) else .inl ([mOctet, mNet, mMail], r, 3, ((i + 1 : Nat) : Int))) := by
    intro i e hi he
    unfold slices_Index_string_string_p21b
    simp only [show decide ((i : Int) < 3) = true from decide_eq_true (by omega), d0, cond_true, Int.toNat_natCast, he, Option.bind_some, wrapS (show i < 4611686018427387904 by omega)]
    cases r == e <;> rfl
  have s3 : slices_Index_string_string_p21b ([mOctet, mNet, mMail], r, 3, ((3 : Nat) : Int)) = some (.inr (.inl ())) := by
    unfold slices_Index_string_string_p21b
    rfl
  have h0 := s0 0 mOctet (by decide) rfl
  have h1 := s0 1 mNet (by decide) rfl
  have h2 := s0 2 mMail (by decide) rfl
  unfold slices_Contains_string_string slices_Index_string_string slices_Index_string_string_p21
  simp only [List.length_cons, List.length_nil]
  rw [show ((0 + 1 + 1 + 1 : Nat) : Int) = 3 from rfl, show (0 : Int) = ((0 : Nat) : Int) from rfl]
  unfold isMode
  cases e0 : r == mOctet with
  | true => rw [e0] at h0; rw [iter_end h0]; rfl
  | false =>
    rw [e0] at h0
    rw [iter_go h0]
    cases e1 : r == mNet with
    | true => rw [e1] at h1; rw [iter_end h1]; rfl
    | false =>
      rw [e1] at h1
      rw [iter_go h1]
      cases e2 : r == mMail with
      | true => rw [e2] at h2; rw [iter_end h2]; rfl
      | false => rw [e2] at h2; rw [iter_go h2, iter_end s3]; rfl
theorem rsmall_loop : ∀ (k i : Nat) (m : By), i + k = m.length → m.length < 4294967281 → ref19_small_p43 ((i : Int), m) = some (m.take i ++ (m.drop i).map lowB) := by
  intro k
  induction k with
  | zero =>
    intro i m hi hb
    have hi' : i = m.length := by omega
    subst hi'
    rw [List.drop_length, List.take_length]
    refine iter_end ?_
    unfold ref19_small_p43b
    simp only [ndlt (Nat.lt_irrefl _), cond_false]
    simp
  | succ k ih =>
    intro i m hi hb
    have hlt : i < m.length := by omega
    have hg : m[i]? = some m[i] := List.getElem?_eq_getElem hlt
    have hd := List.drop_eq_getElem_cons hlt
    have key : ref19_small_p43b ((i : Int), m) = some (.inl (((i + 1 : Nat) : Int), m.set i (lowB m[i]))) := by
      unfold ref19_small_p43b
      simp only [dlt hlt, d0, cond_true, Int.toNat_natCast, hg, Option.bind_some, wrapS (show i < 4611686018427387904 by omega)]
      by_cases h1 : 65 ≤ m[i].toNat
      · rw [show decide ((m[i].toNat : Int) ≥ 65) = true from decide_eq_true (by omega)]
        by_cases h2 : m[i].toNat ≤ 90
        · rw [show decide ((m[i].toNat : Int) ≤ 90) = true from decide_eq_true (by omega)]
          simp only [cond_true]
          rw [wrap_u8 (by omega) (by omega)]
          congr 4
          unfold lowB
          rw [if_pos ⟨h1, h2⟩]
          apply UInt8.toNat_inj.1
          rw [UInt8.toNat_ofNat', UInt8.toNat_add]
          have : (32 : UInt8).toNat = 32 := rfl
          omega
        · rw [show decide ((m[i].toNat : Int) ≤ 90) = false from decide_eq_false (by omega)]
          simp only [cond_true, cond_false]
          rw [show lowB m[i] = m[i] from by unfold lowB; rw [if_neg (by omega)], List.set_getElem_self]
      · rw [show decide ((m[i].toNat : Int) ≥ 65) = false from decide_eq_false (by omega)]
        simp only [cond_false]
        rw [show lowB m[i] = m[i] from by unfold lowB; rw [if_neg (by omega)], List.set_getElem_self]
    refine (iter_go key).trans ((ih (i + 1) _ (by rw [List.length_set]; omega) (by rw [List.length_set]; omega)).trans ?_)
    congr 1
    rw [hd, List.map_cons, List.drop_set_of_lt (by omega), List.take_add_one, List.take_set_of_le (by omega), List.getElem?_set_self hlt, List.append_assoc]
    rfl
theorem rsmall_eq {m : By} (h : m.length < 4294967281) : ref19_small m = some (m.map lowB) := by
  unfold ref19_small
  have := rsmall_loop m.length 0 m (by simp) h
  rw [show ((0 : Nat) : Int) = 0 from rfl] at this
  rw [this]
  rfl
/-! ### Options -/
abbrev Ops := List (By × By)
def optsF : Nat → By → Option Ops
  | 0, b => if b = [] then some [] else none
  | n + 1, b => if b = [] then some [] else match prt b with
    | none => none
    | some p => match prt p.2 with
      | none => none
      | some q => (optsF n q.2).map fun l => (p.1, q.1) :: l
theorem optsF_nil (n : Nat) : optsF n [] = some [] := by cases n <;> rfl
theorem topts_loop (c1 : Bool) (c2 c3 : By) (c4 : Bool) (c5 c6 : By) (c7 : Ops) : ∀ (n : Nat) (r : By) (acc : Ops), r.length ≤ n → acc.length + r.length ≤ 4194304 →
    tftp_Parse_p639 (r, c1, c2, c3, c4, c5, c6, c7, acc) = some (match optsF n r with | some l => .inl (c1, c2, c3, c4, c5, c6, c7, acc ++ l) | none => .inr (false, [], [], false, [])) := by
  have stop : ∀ acc, tftp_Parse_p639 ([], c1, c2, c3, c4, c5, c6, c7, acc) = some (.inl (c1, c2, c3, c4, c5, c6, c7, acc)) := fun acc => by
    refine iter_end ?_
    unfold tftp_Parse_p639b
    rfl
  intro n
  induction n with
  | zero =>
    intro r acc hr _
    have : r = [] := List.eq_nil_of_length_eq_zero (by omega)
    subst this
    rw [optsF_nil, stop]
    simp
  | succ n ih =>
    intro r acc hr hb
    by_cases h0 : r = []
    · subst h0
      rw [optsF_nil, stop]
      simp
    · have hpos : 0 < r.length := List.length_pos_iff.2 h0
      have hgt : decide ((r.length : Int) > 0) = true := decide_eq_true (by omega)
      rw [optsF, if_neg h0]
      cases hp : prt r with
      | none =>
        obtain ⟨x, y, e1, e2, e3⟩ := cut_none (by omega) hp
        refine iter_end ?_
        unfold tftp_Parse_p639b
        simp only [hgt, cond_true, e1, Option.bind_some]
        have hy : ∃ z, tftp_cut y = some z := by rw [cut_eq (by omega)]; exact ⟨_, rfl⟩
        obtain ⟨z, hz⟩ := hy
        rw [hz]
        rfl
      | some p =>
        have hl := spl_len (prt_spl hp).1
        have e1 := cut_some (by omega) hp
        simp only
        cases hq : prt p.2 with
        | none =>
          obtain ⟨x, y, e2, _, _⟩ := cut_none (b := p.2) (by omega) hq
          refine iter_end ?_
          unfold tftp_Parse_p639b
          simp only [hgt, cond_true, e1, e2, Option.bind_some]
          rfl
        | some q =>
          have hl2 := spl_len (prt_spl hq).1
          have e2 := cut_some (b := p.2) (by omega) hq
          have key : tftp_Parse_p639b (r, c1, c2, c3, c4, c5, c6, c7, acc) = some (.inl (q.2, c1, c2, c3, c4, c5, c6, c7, acc ++ [(p.1, q.1)])) := by
            unfold tftp_Parse_p639b
            simp only [hgt, cond_true, e1, e2, Option.bind_some]
            rw [fits_ok (by omega) (by omega)]
            rfl
          refine (iter_go key).trans ((ih q.2 _ (by omega) (by rw [List.length_append, List.length_singleton]; omega)).trans ?_)
          simp only
          cases optsF n q.2 with
          | none => rfl
          | some l => simp
theorem ropts_loop (c1 : Bool) (c2 c3 : By) (c4 : Bool) (c5 c6 : By) (c7 : Ops) : ∀ (n : Nat) (r : By) (acc : Ops), r.length ≤ n → acc.length + r.length ≤ 4194304 →
    ref19_Parse_p2559 (r, c1, c2, c3, c4, c5, c6, c7, acc) = some (match optsF n r with | some l => .inl (c1, c2, c3, c4, c5, c6, c7, acc ++ l) | none => .inr ((false, [], [], []), false)) := by
  have stop : ∀ acc, ref19_Parse_p2559 ([], c1, c2, c3, c4, c5, c6, c7, acc) = some (.inl (c1, c2, c3, c4, c5, c6, c7, acc)) := fun acc => by
    refine iter_end ?_
    unfold ref19_Parse_p2559b
    rfl
  intro n
  induction n with
  | zero =>
    intro r acc hr _
    have : r = [] := List.eq_nil_of_length_eq_zero (by omega)
    subst this
    rw [optsF_nil, stop]
    simp
  | succ n ih =>
    intro r acc hr hb
    by_cases h0 : r = []
    · subst h0
      rw [optsF_nil, stop]
      simp
    · have hpos : 0 < r.length := List.length_pos_iff.2 h0
      have hgt : decide ((r.length : Int) > 0) = true := decide_eq_true (by omega)
      rw [optsF, if_neg h0]
      cases hp : prt r with
      | none =>
        obtain ⟨x, y, e1⟩ := part_none (by omega) hp
        refine iter_end ?_
        unfold ref19_Parse_p2559b
        simp only [hgt, cond_true, e1, Option.bind_some]
        rfl
      | some p =>
        have hl := spl_len (prt_spl hp).1
        have e1 := part_some (by omega) hp
        simp only
        cases hq : prt p.2 with
        | none =>
          obtain ⟨x, y, e2⟩ := part_none (b := p.2) (by omega) hq
          refine iter_end ?_
          unfold ref19_Parse_p2559b
          simp only [hgt, cond_true, e1, e2, Option.bind_some]
          rfl
        | some q =>
          have hl2 := spl_len (prt_spl hq).1
          have e2 := part_some (b := p.2) (by omega) hq
          have key : ref19_Parse_p2559b (r, c1, c2, c3, c4, c5, c6, c7, acc) = some (.inl (q.2, c1, c2, c3, c4, c5, c6, c7, acc ++ [(p.1, q.1)])) := by
            unfold ref19_Parse_p2559b
            simp only [hgt, cond_true, e1, e2, Option.bind_some]
            rw [fits_ok (by omega) (by omega)]
            rfl
          refine (iter_go key).trans ((ih q.2 _ (by omega) (by rw [List.length_append, List.length_singleton]; omega)).trans ?_)
          simp only
          cases optsF n q.2 with
          | none => rfl
          | some l => simp
/-! ### A request -/
abbrev Rq := Bool × By × By × Ops
/-- Any bytes, read. -/
def parseB (w : Bool) (l : By) : Option Rq := match prt l with
  | none => none
  | some p => if p.1.all printable = true then match prt p.2 with
      | none => none
      | some q => if isMode (q.1.map lowB) = true then (optsF q.2.length q.2).map fun o => (w, p.1, q.1.map lowB, o) else none
    else none
def parseS : By → Option Rq
  | a :: c :: l => if a = 0 ∧ (c = 1 ∨ c = 2) then parseB (c == 2) l else none
  | _ => none
theorem tparse_body (a c : UInt8) (l : By) (hl : l.length ≤ 4194304) :
    ((tftp_cut l).bind fun (r4 : List UInt8 × List UInt8 × Bool) => (tftp_cut r4.2.1).bind fun (r5 : List UInt8 × List UInt8 × Bool) => (tftp_small r5.1).bind fun (r6 : List UInt8) => tftp_Parse_p191 (r4.1, r5.2.1, r4.2.2, r5.2.2, false, [], [], (c == 2), r4.1, r6, [], [])) =
    some (match prt l with
      | none => .inr (false, [], [], false, [])
      | some p => if p.1.all printable = true then match prt p.2 with
          | none => .inr (false, [], [], false, [])
          | some q => if isMode (q.1.map lowB) = true then .inl (q.2, false, [], [], (c == 2), p.1, q.1.map lowB, [], []) else .inr (false, [], [], false, [])
        else .inr (false, [], [], false, [])) := by
  cases hp : prt l with
  | none =>
    obtain ⟨x, y, e1, e2, e3⟩ := cut_none (by omega) hp
    rw [e1]
    simp only [Option.bind_some]
    have hy : ∃ z, tftp_cut y = some z ∧ z.1.length ≤ y.length := by
      rw [cut_eq (by omega)]
      refine ⟨_, rfl, ?_⟩
      cases hs : spl y with
      | none => exact Nat.le_refl _
      | some p => have := spl_len hs; simp only; omega
    obtain ⟨z, hz, hzl⟩ := hy
    rw [hz]
    simp only [Option.bind_some]
    rw [small_eq (by omega)]
    simp only [Option.bind_some]
    unfold tftp_Parse_p191
    rfl
  | some p =>
    have hl1 := spl_len (prt_spl hp).1
    rw [cut_some (by omega) hp]
    simp only [Option.bind_some]
    cases hq : prt p.2 with
    | none =>
      obtain ⟨x, y, e1, e2, e3⟩ := cut_none (b := p.2) (by omega) hq
      rw [e1]
      simp only [Option.bind_some]
      rw [small_eq (by omega)]
      simp only [Option.bind_some, ite_self]
      unfold tftp_Parse_p191
      rfl
    | some q =>
      have hl2 := spl_len (prt_spl hq).1
      rw [cut_some (by omega) hq]
      simp only [Option.bind_some]
      rw [small_eq (by omega)]
      simp only [Option.bind_some]
      unfold tftp_Parse_p191
      simp only [Bool.not_true, cond_false]
      rw [plain_eq (by omega)]
      simp only [Option.bind_some]
      cases p.1.all printable with
      | false => rfl
      | true =>
        simp only [Bool.not_true, cond_false, if_true]
        rw [has_mode]
        obtain ⟨h1, h2⟩ := low_modes q.1
        rw [h1]
        simp only [Option.bind_some]
        cases hm : isMode (q.1.map lowB) with
        | false => rfl
        | true =>
          rw [h2 hm]
          rfl
theorem tparse_eq {data : By} (h : data.length ≤ 4194304) : tftp_Parse data = some (match parseS data with
    | some r => (r.1, r.2.1, r.2.2.1, true, r.2.2.2) | none => (false, [], [], false, [])) := by
  match data, h with
  | [], _ => rfl
  | [x], _ => rfl
  | a :: c :: l, h =>
    simp only [List.length_cons] at h
    have hge : decide ((((a :: c :: l).length : Nat) : Int) < 2) = false := decide_eq_false (by simp only [List.length_cons]; omega)
    have h5 : tftp_Parse_p5 (a :: c :: l, false, [], [], []) = some (if a = 0 ∧ (c = 1 ∨ c = 2) then .inl (a :: c :: l, false, [], [], []) else .inr (false, [], [], false, [])) := by
      unfold tftp_Parse_p5
      simp only [hge, cond_false, List.getElem?_cons_zero, List.getElem?_cons_succ, Option.bind_some]
      by_cases ha : a = 0
      · subst ha
        rw [show (((0 : UInt8).toNat : Int) != 0) = false from rfl]
        simp only [cond_false, true_and]
        by_cases hc1 : c.toNat < 1
        · rw [show decide ((c.toNat : Int) < 1) = true from decide_eq_true (by omega), if_neg (by rintro (rfl | rfl) <;> revert hc1 <;> decide)]
          rfl
        · rw [show decide ((c.toNat : Int) < 1) = false from decide_eq_false (by omega)]
          simp only [cond_false]
          by_cases hc2 : 2 < c.toNat
          · rw [show decide ((c.toNat : Int) > 2) = true from decide_eq_true (by omega), if_neg (by rintro (rfl | rfl) <;> revert hc2 <;> decide)]
            rfl
          · rw [show decide ((c.toNat : Int) > 2) = false from decide_eq_false (by omega), if_pos (by
              have : c.toNat = 1 ∨ c.toNat = 2 := by omega
              rcases this with e | e
              · exact .inl (UInt8.toNat_inj.1 e)
              · exact .inr (UInt8.toNat_inj.1 e))]
            rfl
      · have : ((a.toNat : Int) != 0) = true := by
          simp only [bne_iff_ne, ne_eq]
          intro e
          exact ha (UInt8.toNat_inj.1 (by simpa using e))
        rw [this, if_neg fun e => ha e.1]
        rfl
    unfold tftp_Parse
    rw [h5]
    simp only [Option.bind_some, parseS]
    split
    · rename_i hc
      simp only [Sum.elim_inl, List.getElem?_cons_zero, List.getElem?_cons_succ, Option.bind_some]
      rw [show decide ((2 : Int) ≤ (((a :: c :: l).length : Nat) : Int)) = true from decide_eq_true (by simp only [List.length_cons]; omega)]
      simp only [cond_true, List.drop_succ_cons, List.drop_zero]
      rw [List.take_of_length_le (by simp only [List.length_cons]; omega)]
      have hw : ((c.toNat : Int) == 2) = (c == 2) := by
        rw [Bool.eq_iff_iff]
        simp only [beq_iff_eq]
        constructor
        · intro e; exact UInt8.toNat_inj.1 (by simp; omega)
        · intro e; subst e; rfl
      rw [hw]
      have hb := tparse_body a c l (by omega)
      have re : ∀ {α β γ δ ε : Type} (x : Option α) (f : α → Option β) (g : α → β → Option γ) (k : α → β → γ → Option δ) (j : δ → Option ε),
          (x.bind fun a => (f a).bind fun b => (g a b).bind fun c => (k a b c).bind j) = (x.bind fun a => (f a).bind fun b => (g a b).bind fun c => k a b c).bind j := by
        intro α β γ δ ε x f g k j
        cases x with
        | none => rfl
        | some a =>
          simp only [Option.bind_some]
          cases f a with
          | none => rfl
          | some b =>
            simp only [Option.bind_some]
            cases g a b <;> rfl
      rw [re, hb]
      unfold parseB
      simp only [Option.bind_some]
      cases hp : prt l with
      | none => rfl
      | some p =>
        have hl1 := spl_len (prt_spl hp).1
        simp only
        split
        · cases hq : prt p.2 with
          | none => rfl
          | some q =>
            have hl2 := spl_len (prt_spl hq).1
            simp only
            split
            · simp only [Sum.elim_inl]
              rw [topts_loop false [] [] (c == 2) p.1 (q.1.map lowB) [] q.2.length q.2 [] (Nat.le_refl _) (by simp only [List.length_nil]; omega)]
              simp only [Option.bind_some, List.nil_append]
              cases optsF q.2.length q.2 <;> rfl
            · rfl
        · rfl
    · rfl
theorem rparse_eq {data : By} (h : data.length ≤ 4194304) : ref19_Parse data = some (match parseS data with
    | some r => (r, true) | none => ((false, [], [], []), false)) := by
  match data, h with
  | [], _ => rfl
  | [x], _ => rfl
  | a :: c :: l, h =>
    simp only [List.length_cons] at h
    have hge : decide ((((a :: c :: l).length : Nat) : Int) < 2) = false := decide_eq_false (by simp only [List.length_cons]; omega)
    have h5 : ref19_Parse_p5 (a :: c :: l, false, [], [], []) = some (if a = 0 ∧ (c = 1 ∨ c = 2) then .inl (a :: c :: l, false, [], [], []) else .inr ((false, [], [], []), false)) := by
      unfold ref19_Parse_p5
      simp only [hge, cond_false, List.getElem?_cons_zero, List.getElem?_cons_succ, Option.bind_some]
      by_cases ha : a = 0
      · subst ha
        rw [show (((0 : UInt8).toNat : Int) != 0) = false from rfl]
        simp only [cond_false, true_and]
        have nn : ∀ k : UInt8, ((c.toNat : Int) != (k.toNat : Int)) = (c != k) := fun k => by
          rw [Bool.eq_iff_iff]
          simp only [bne_iff_ne, ne_eq, Int.natCast_inj]
          exact not_congr UInt8.toNat_inj
        have n1 := nn 1
        have n2 := nn 2
        rw [show (((1 : UInt8).toNat : Nat) : Int) = 1 from rfl] at n1
        rw [show (((2 : UInt8).toNat : Nat) : Int) = 2 from rfl] at n2
        rw [n1, n2]
        by_cases hc1 : c = 1
        · subst hc1; rfl
        · by_cases hc2 : c = 2
          · subst hc2; rfl
          · rw [if_neg (by rintro (e | e); exact hc1 e; exact hc2 e), (bne_iff_ne (a := c) (b := 1)).2 hc1, (bne_iff_ne (a := c) (b := 2)).2 hc2]
            rfl
      · have : ((a.toNat : Int) != 0) = true := by
          simp only [bne_iff_ne, ne_eq]
          intro e
          exact ha (UInt8.toNat_inj.1 (by simpa using e))
        rw [this, if_neg fun e => ha e.1]
        rfl
    unfold ref19_Parse
    rw [h5]
    simp only [Option.bind_some, parseS]
    split
    · rename_i hc
      simp only [Sum.elim_inl, List.getElem?_cons_zero, List.getElem?_cons_succ, Option.bind_some]
      rw [show decide ((2 : Int) ≤ (((a :: c :: l).length : Nat) : Int)) = true from decide_eq_true (by simp only [List.length_cons]; omega)]
      simp only [cond_true, List.drop_succ_cons, List.drop_zero]
      rw [List.take_of_length_le (by simp only [List.length_cons]; omega)]
      have hw : ((c.toNat : Int) == 2) = (c == 2) := by
        rw [Bool.eq_iff_iff]
        simp only [beq_iff_eq]
        constructor
        · intro e; exact UInt8.toNat_inj.1 (by simp; omega)
        · intro e; subst e; rfl
      rw [hw]
      unfold parseB
      cases hp : prt l with
      | none =>
        obtain ⟨x, y, e1⟩ := part_none (by omega) hp
        rw [e1]
        simp only [Option.bind_some]
        unfold ref19_Parse_p47
        rfl
      | some p =>
        have hl1 := spl_len (prt_spl hp).1
        rw [part_some (by omega) hp]
        simp only [Option.bind_some]
        unfold ref19_Parse_p47
        simp only [Bool.not_true, cond_false]
        rw [name_eq (by omega)]
        simp only [Option.bind_some]
        cases p.1.all printable with
        | false => rfl
        | true =>
          simp only [Bool.not_true, cond_false, if_true, Option.bind_some, Sum.elim_inl]
          cases hq : prt p.2 with
          | none =>
            obtain ⟨x, y, e1⟩ := part_none (b := p.2) (by omega) hq
            rw [e1]
            simp only [Option.bind_some]
            unfold ref19_Parse_p383
            rfl
          | some q =>
            have hl2 := spl_len (prt_spl hq).1
            rw [part_some (by omega) hq]
            simp only [Option.bind_some]
            unfold ref19_Parse_p383
            simp only [Bool.not_true, cond_false]
            rw [rsmall_eq (by omega)]
            simp only [Option.bind_some]
            rw [mode_eq]
            simp only [Option.bind_some]
            cases hm : isMode (q.1.map lowB) with
            | false => rfl
            | true =>
              simp only [Bool.not_true, cond_false, if_true, Option.bind_some, Sum.elim_inl]
              rw [rsmall_eq (by omega)]
              simp only [Option.bind_some]
              rw [ropts_loop false [] [] (c == 2) p.1 (q.1.map lowB) [] q.2.length q.2 [] (Nat.le_refl _) (by simp only [List.length_nil]; omega)]
              simp only [Option.bind_some, List.nil_append]
              cases optsF q.2.length q.2 <;> rfl
    · rfl
end Go.Proofs.YtdhogcppmnfekaaDoor.Jv
