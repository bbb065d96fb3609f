/- A line's place, by the program: what it gives; conditions: none. -/
import Derived.Test.YtpkhlncohbakkaaDoorParse18
import Derived.Lib.TrimAscii
import Derived.Lib.MapLaws
namespace Go.Proofs.YtpkhlncohbakkaaDoor.Jv
open Go
set_option linter.unusedSectionVars false
set_option linter.unusedVariables false
set_option linter.unusedSimpArgs false
/-! ### Capital letters -/
def upB (c : UInt8) : UInt8 := if 97 ≤ c.toNat ∧ c.toNat ≤ 122 then c - 32 else c
theorem upB_nat (c : UInt8) : (upB c).toNat = if 97 ≤ c.toNat ∧ c.toNat ≤ 122 then c.toNat - 32 else c.toNat := by
  unfold upB
  split
  · have h32 : (32 : UInt8).toNat = 32 := rfl
    rw [UInt8.toNat_sub_of_le _ _ (by rw [UInt8.le_iff_toNat_le]; omega)]
    omega
  · rfl
theorem encode_ascii {r : Nat} (h : r < 128) : Lib.encodeRune (r : Int) = [UInt8.ofNat r] := by
  unfold Lib.encodeRune
  rw [Lib.encodeRuneZ_one (by omega) (by omega)]
  simp
theorem mapD_ascii : ∀ s : By, (∀ c ∈ s, c.toNat < 128) → Lib.mapD upR s = s.map upB
  | [], _ => rfl
  | b :: t, h => by
    have hb := h b (by simp)
    rw [Lib.mapD_step _ _ (by simp), Lib.decodeL_ascii b t hb]
    simp only [List.drop_succ_cons, List.drop_zero, List.map_cons]
    rw [mapD_ascii t fun c hc => h c (by simp [hc])]
    have e : upR (b.toNat : Int) = ((upB b).toNat : Int) := by
      rw [upB_nat]
      unfold upR
      split <;> split <;> omega
    rw [e, if_pos (by omega), encode_ascii (by rw [upB_nat]; split <;> omega)]
    simp
theorem encode_big {r : Nat} (h : 128 ≤ r) : ∃ c l, Lib.encodeRune (r : Int) = c :: l ∧ 128 ≤ c.toNat := by
  have big : ∀ x : Int, 128 ≤ x → x < 256 → 128 ≤ (x.toNat.toUInt8).toNat := fun x h0 h1 => by
    simp
    omega
  unfold Lib.encodeRune Lib.encodeRuneZ
  rw [if_neg (by omega)]
  split
  · exact ⟨_, _, rfl, big _ (by omega) (by omega)⟩
  · split
    · exact ⟨_, _, rfl, big _ (by omega) (by omega)⟩
    · split
      · exact ⟨_, _, rfl, big _ (by omega) (by omega)⟩
      · exact ⟨_, _, rfl, big _ (by omega) (by omega)⟩
theorem decode_big {b : UInt8} {t : By} (h : 128 ≤ b.toNat) : 128 ≤ (Lib.decodeL (b :: t)).1 := by
  by_cases hv : (Lib.decodeL (b :: t)).1 = 65533 ∧ (Lib.decodeL (b :: t)).2 = 1
  · omega
  · have h1 := Lib.encode_decode (b :: t) (by simp) hv
    rcases Nat.lt_or_ge (Lib.decodeL (b :: t)).1 128 with hlt | hge
    · rw [encode_ascii hlt] at h1
      have h2 := Lib.decodeL_width (b :: t)
      obtain ⟨k, hk⟩ : ∃ k, (Lib.decodeL (b :: t)).2 = k + 1 := ⟨_, (Nat.sub_add_cancel h2).symm⟩
      rw [hk, List.take_succ_cons] at h1
      have h3 := (List.cons.inj h1).1
      rw [← h3] at h
      rw [UInt8.toNat_ofNat'] at h
      omega
    · exact hge
theorem mapD_big : ∀ s : By, (∃ c ∈ s, 128 ≤ c.toNat) → ∃ c ∈ Lib.mapD upR s, 128 ≤ c.toNat
  | [], h => by obtain ⟨c, hc, _⟩ := h; cases hc
  | b :: t, h => by
    rw [Lib.mapD_step _ _ (by simp)]
    rcases Nat.lt_or_ge b.toNat 128 with hb | hb
    · rw [Lib.decodeL_ascii b t hb]
      simp only [List.drop_succ_cons, List.drop_zero]
      obtain ⟨c, hc, h1⟩ := h
      rcases List.mem_cons.1 hc with e | e
      · subst e; omega
      · obtain ⟨d, hd, h2⟩ := mapD_big t ⟨c, e, h1⟩
        exact ⟨d, List.mem_append_right _ hd, h2⟩
    · have h1 := decode_big (t := t) hb
      have e : upR ((Lib.decodeL (b :: t)).1 : Int) = ((Lib.decodeL (b :: t)).1 : Int) := by
        unfold upR
        rw [if_neg (by omega)]
      rw [e, if_pos (by omega)]
      obtain ⟨c, l, h2, h3⟩ := encode_big h1
      rw [h2]
      exact ⟨c, by simp, h3⟩
theorem map_eq {w K : By} (hK : ∀ c ∈ K, c.toNat < 128) : (Lib.mapD upR w == K) = (w.map upB == K) := by
  by_cases h : ∀ c ∈ w, c.toNat < 128
  · rw [mapD_ascii w h]
  · have hx : ∃ c ∈ w, 128 ≤ c.toNat := Classical.byContradiction fun hn => h fun c hc => by
      rcases Nat.lt_or_ge c.toNat 128 with h1 | h1
      · exact h1
      · exact absurd ⟨c, hc, h1⟩ hn
    obtain ⟨d, hd, h1⟩ := mapD_big w hx
    obtain ⟨c, hc, h2⟩ := hx
    have e1 : (Lib.mapD upR w == K) = false := by
      rw [beq_eq_false_iff_ne]
      intro e
      rw [e] at hd
      have := hK d hd
      omega
    have e2 : (w.map upB == K) = false := by
      rw [beq_eq_false_iff_ne]
      intro e
      have hm : upB c ∈ w.map upB := List.mem_map_of_mem hc
      rw [e] at hm
      have h3 := hK _ hm
      rw [upB_nat, if_neg (by omega)] at h3
      omega
    rw [e1, e2]
theorem caps_eq {w : By} (hw : w.length ≤ 1048576) : ftp_capitals w = some (Lib.mapD upR w) := by
  unfold ftp_capitals strings_Map
  rw [decide_eq_true (by omega)]
  rfl
abbrev AskT := Int × (Int × Int × Int) × Int
abbrev errQ : AskT × Bool := ((0, (0, 0, 0), 0), false)
/-- A place has a port. -/
def Fine (r : AskT × Bool) : Prop := r.2 = true → 0 < r.1.2.2 ∧ r.1.2.2 < 65536
theorem fine_err : Fine errQ := fun h => by cases h
def portM (s : By) : Option Nat := (decM 65535 s).bind fun n => if 0 < n then some n else none
theorem port_tells {s : By} (hs : s.length ≤ 1048576) : Tells (ftp_port s) (portM s) := by
  obtain ⟨x, hx, hv⟩ := ftp_num hs (m := 65535) (by omega)
  have hx' : ftp_number s 65535 = _ := hx
  unfold ftp_port portM
  rw [hx']
  simp only [Option.bind_some]
  cases hm : decM 65535 s with
  | none => exact ⟨x, rfl, fun n h => by cases h⟩
  | some n =>
    have := hv n hm
    subst this
    simp only [Option.isSome_some, cond_true, Option.bind_some]
    by_cases h0 : 0 < n
    · rw [if_pos h0, decide_eq_true (by omega)]
      exact ⟨_, rfl, fun k h => by cases h; rfl⟩
    · rw [if_neg h0, decide_eq_false (by omega)]
      exact ⟨_, rfl, fun k h => by cases h⟩
theorem portM_range {s : By} {n : Nat} (h : portM s = some n) : 0 < n ∧ n < 65536 := by
  unfold portM at h
  cases hm : decM 65535 s with
  | none => rw [hm] at h; cases h
  | some k =>
    rw [hm] at h
    simp only [Option.bind_some] at h
    have := decM_le hm
    split at h
    · cases h; omega
    · cases h
theorem mark_eq (s : By) : ∃ b, ftp_mark s = some (s.take 1, b) ∧ (s = [] → b = false) := by
  unfold ftp_mark ftp_mark_p21
  cases s with
  | nil =>
    rw [iter_end (o := .inl ())]
    · exact ⟨false, rfl, fun _ => rfl⟩
    · unfold ftp_mark_p21b
      rw [bif_ndec (by simp)]
  | cons c l =>
    have h1 : (1 : Int) ≤ (((c :: l).length : Nat) : Int) := by simp only [List.length_cons]; omega
    have : ∃ b, ftp_mark_p21b (c :: l, c :: l, 0) = some (.inr (.inr ((c :: l).take 1, b))) := by
      unfold ftp_mark_p21b
      simp only
      rw [bif_dec (by simp), bif_dec h1]
      generalize ((Utf8.decode ⟨⟨c :: l⟩⟩ 0).1 : Int) = r
      by_cases a1 : r ≥ 33
      · rw [bif_dec a1]
        by_cases a2 : r ≤ 126
        · rw [bif_dec a2]
          by_cases a3 : r < 48
          · rw [bif_dec a3]; exact ⟨_, rfl⟩
          · rw [bif_ndec a3]; exact ⟨_, rfl⟩
        · rw [bif_ndec a2]; exact ⟨_, rfl⟩
      · rw [bif_ndec a1]; exact ⟨_, rfl⟩
    obtain ⟨b, hb⟩ := this
    rw [iter_end hb]
    exact ⟨b, rfl, fun h => by cases h⟩
/-! ### Six numbers -/
theorem six_parts {L : List By} (hL : L.length ≤ 1048577) (hx : ∀ x ∈ L, x.length ≤ 1048576) : ∀ k i (acc : By), i + k = L.length → acc.length = i → i ≤ 6 →
    ∃ o, ftp_six_p43 (L, (L.length : Int), (i : Int), 0, 0, 0, 0, 0, acc) = some o ∧ (o = .inr errQ ∨ ∃ b, o = .inl (0, 0, 0, 0, 0, b)) := by
  intro k
  induction k with
  | zero =>
    intro i acc h1 h2 h3
    refine ⟨.inl (0, 0, 0, 0, 0, acc), ?_, .inr ⟨_, rfl⟩⟩
    unfold ftp_six_p43
    refine iter_end ?_
    unfold ftp_six_p43b
    rw [bif_ndec (by simp only; omega)]
  | succ k ih =>
    intro i acc h1 h2 h3
    have hi : i < L.length := by omega
    have e1 : IntKind.i64.wrap ((i : Int) + 1) = ((i + 1 : Nat) : Int) := by rw [wrap_i64 (by omega) (by omega)]; omega
    obtain ⟨x, hg, hv⟩ := ftp_num (hx _ (List.getElem_mem hi)) (m := 255) (by omega)
    have hg' : ftp_number L[i] 255 = _ := hg
    unfold ftp_six_p43
    cases hm : decM 255 L[i] with
    | none =>
      rw [hm] at hg'
      refine ⟨.inr errQ, iter_end ?_, .inl rfl⟩
      unfold ftp_six_p43b
      simp only
      rw [bif_dec (by omega), bif_dec (by omega), Int.toNat_natCast, List.getElem?_eq_getElem hi, Option.bind_some, hg']
      rfl
    | some n =>
      rw [hm] at hg'
      by_cases h6 : i = 6
      · refine ⟨.inr errQ, iter_end ?_, .inl rfl⟩
        unfold ftp_six_p43b
        simp only
        rw [bif_dec (by omega), bif_dec (by omega), Int.toNat_natCast, List.getElem?_eq_getElem hi, Option.bind_some, hg']
        simp only [Option.bind_some, Option.isSome_some, Bool.not_true, cond_false]
        rw [show ((acc.length : Int) == 6) = true by rw [beq_iff_eq]; omega]
        rfl
      · obtain ⟨o, ho, hp⟩ := ih (i + 1) (acc ++ [UInt8.ofNat ((IntKind.u8.wrap x)).toNat]) (by omega) (by simp [h2]) (by omega)
        refine ⟨o, Eq.trans (iter_go ?_) ho, hp⟩
        unfold ftp_six_p43b
        simp only
        rw [bif_dec (by omega), bif_dec (by omega), Int.toNat_natCast, List.getElem?_eq_getElem hi, Option.bind_some, hg']
        simp only [Option.bind_some, Option.isSome_some, Bool.not_true, cond_false]
        rw [show ((acc.length : Int) == 6) = false by rw [beq_eq_false_iff_ne]; omega, cond_false, fits16 (by omega) (by decide), e1]
        rfl
theorem six_fine {s : By} (hs : s.length ≤ 1048576) : ∃ r, ftp_six s = some r ∧ Fine r ∧ (r.2 = true → r.1.2.1.1 = 4) := by
  unfold ftp_six
  obtain ⟨g1, g2⟩ := spl_small hs 44
  rw [Split_eq hs]
  obtain ⟨o, ho, hp⟩ := six_parts g1 g2 (spl 44 s).length 0 [] (by omega) rfl (by omega)
  simp only [Option.bind_some]
  rw [show ftp_six_p43 (spl 44 s, ((spl 44 s).length : Int), 0, 0, 0, 0, 0, 0, []) = some o from ho]
  simp only [Option.bind_some]
  rcases hp with rfl | ⟨b, rfl⟩
  · exact ⟨errQ, rfl, fine_err, fun h => by cases h⟩
  · simp only [Sum.elim_inl]
    unfold ftp_six_p23
    simp only
    by_cases h6 : b.length = 6
    · rw [show ((b.length : Int) != 6) = false by rw [h6]; rfl, cond_false, bif_dec (by omega), List.getElem?_eq_getElem (show 4 < b.length by omega)]
      simp only [Option.bind_some]
      rw [bif_dec (show (5 : Int) < (b.length : Int) by omega), List.getElem?_eq_getElem (show 5 < b.length by omega)]
      simp only [Option.bind_some]
      have x4 := b[4].toNat_lt
      have x5 := b[5].toNat_lt
      have hok : ((b[4].toNat = 0 ∧ b[5].toNat = 0) → False) → ∃ r, ((bif (decide (4 ≤ (b.length : Int))) then ((addr_From (b.take 4)).bind fun (r6 : (Int × Int × Int) × Int) => bif (decide (4 < (b.length : Int))) then ((b[4]?).bind fun (e7 : UInt8) => bif (decide (5 < (b.length : Int))) then ((b[5]?).bind fun (e8 : UInt8) => some ((6, (r6.1.1, r6.1.2.1, r6.1.2.2), (ior .i64 (ishl .i64 (IntKind.i64.wrap (e7.toNat : Int)) 8) (IntKind.i64.wrap (e8.toNat : Int)))), true)) else none) else none) else none) : Option (AskT × Bool)) = some r ∧ Fine r ∧ (r.2 = true → r.1.2.1.1 = 4) := fun hne => by
        rw [bif_dec (by omega), addr_From_eq]
        simp only [Option.bind_some]
        rw [bif_dec (by omega), List.getElem?_eq_getElem (show 4 < b.length by omega)]
        simp only [Option.bind_some]
        rw [bif_dec (by omega), List.getElem?_eq_getElem (show 5 < b.length by omega)]
        simp only [Option.bind_some]
        have e : ior .i64 (ishl .i64 (IntKind.i64.wrap ((b[4].toNat : Nat) : Int)) 8) (IntKind.i64.wrap ((b[5].toNat : Nat) : Int)) = ((2 ^ 8 * b[4].toNat + b[5].toNat : Nat) : Int) := by
          rw [wrap_i64 (by omega) (by omega), wrap_i64 (by omega) (by omega), show (8 : Int) = ((8 : Nat) : Int) from rfl, ishl_i64 (by decide) (by omega), ior_i64 (by omega) (by omega)]
        rw [e]
        have hne' : ¬ (b[4].toNat = 0 ∧ b[5].toNat = 0) := hne
        refine ⟨_, rfl, fun _ => ⟨?_, ?_⟩, fun _ => ?_⟩
        · simp only; omega
        · simp only; omega
        · have ht : (b.take 4).length = 4 := by simp; omega
          unfold fromA
          rw [if_pos ht]
      by_cases h4 : b[4].toNat = 0
      · rw [show (((b[4].toNat : Nat) : Int) == 0) = true by rw [h4]; rfl, cond_true]
        by_cases h5 : b[5].toNat = 0
        · rw [show (((b[5].toNat : Nat) : Int) == 0) = true by rw [h5]; rfl, cond_true]
          exact ⟨errQ, rfl, fine_err, fun h => by cases h⟩
        · rw [show (((b[5].toNat : Nat) : Int) == 0) = false by rw [beq_eq_false_iff_ne]; omega, cond_false]
          exact hok fun h => h5 h.2
      · rw [show (((b[4].toNat : Nat) : Int) == 0) = false by rw [beq_eq_false_iff_ne]; omega, cond_false]
        exact hok fun h => h4 h.1
    · rw [show ((b.length : Int) != 6) = true by rw [bne_iff_ne]; omega, cond_true]
      exact ⟨errQ, rfl, fine_err, fun h => by cases h⟩
/-! ### EPRT -/
theorem eprt_fine {fam : Int} (hf : fam = 4 ∨ fam = 6) {s : By} (hs : s.length ≤ 1048576) : ∃ r, ftp_eprt fam s = some r ∧ Fine r ∧ (r.2 = true → r.1.2.1.1 = fam) := by
  have herr : ∃ r, (some errQ : Option (AskT × Bool)) = some r ∧ Fine r ∧ (r.2 = true → r.1.2.1.1 = fam) := ⟨errQ, rfl, fine_err, fun h => by cases h⟩
  unfold ftp_eprt
  obtain ⟨b, hb, hb0⟩ := mark_eq s
  rw [hb]
  simp only [Option.bind_some]
  cases b with
  | false => exact herr
  | true =>
    simp only [Bool.not_true, cond_false]
    cases s with
    | nil => cases hb0 rfl
    | cons c l =>
      show ∃ r, ((strings_Split (c :: l) [c]).bind _) = some r ∧ _
      rw [Split_eq hs]
      obtain ⟨g1, g2⟩ := spl_small hs c
      generalize spl c (c :: l) = L at g1 g2
      simp only [Option.bind_some]
      unfold ftp_eprt_p47
      simp only
      by_cases h5 : L.length = 5
      · rw [show ((L.length : Int) != 5) = false by rw [h5]; rfl, cond_false]
        match L, h5, g2 with
        | [p0, p1, p2, p3, p4], _, g2 =>
          simp only [List.getElem?_cons_zero, List.getElem?_cons_succ, Option.bind_some]
          cases h0 : (p0 == ([] : By)) with
          | false => exact herr
          | true =>
            simp only [Bool.not_true, cond_false]
            cases h4 : (p4 == ([] : By)) with
            | false => exact herr
            | true =>
              simp only [Bool.not_true, cond_false, Option.bind_some, Sum.elim_inl, List.getElem?_cons_zero, List.getElem?_cons_succ]
              rw [addr_Parse_eq (s := p2) (g2 p2 (by simp))]
              simp only [Option.bind_some]
              obtain ⟨x, hx, hv⟩ := port_tells (s := p3) (g2 p3 (by simp))
              rw [hx]
              simp only [Option.bind_some]
              cases he : ((parseM p2).2 != 0) with
              | true => exact herr
              | false =>
                simp only [cond_false]
                cases hm : portM p3 with
                | none => exact herr
                | some n =>
                  have hn := hv n hm
                  subst hn
                  have hr := portM_range hm
                  simp only [Option.isSome_some, Bool.not_true, cond_false]
                  cases hfam : ((parseM p2).1.1 != fam) with
                  | true => exact herr
                  | false =>
                    simp only [cond_false]
                    have hI : ∃ t, strconv_Itoa (IntKind.i64.wrap ((IntKind.i64.wrap (Int.tdiv fam 2)) - 1)) = some t := by
                      rcases hf with rfl | rfl
                      · exact ⟨_, rfl⟩
                      · exact ⟨_, rfl⟩
                    obtain ⟨t, ht⟩ := hI
                    rw [ht]
                    simp only [Option.bind_some]
                    cases h1 : (p1 == t) with
                    | false => exact herr
                    | true =>
                      refine ⟨_, rfl, fun _ => ⟨?_, ?_⟩, fun _ => ?_⟩
                      · simp only; omega
                      · simp only; omega
                      · simp only
                        have : ((parseM p2).1.1 != fam) = false := hfam
                        simpa using this
      · rw [show ((L.length : Int) != 5) = true by rw [bne_iff_ne]; omega]
        exact herr
theorem cut_some {s c : By} (hs : s.length ≤ 1048576) : strings_Cut s c = some (Lib.cut s c) := by
  unfold strings_Cut
  rw [decide_eq_true (by omega)]
  rfl
theorem inner_some {s : By} (hs : s.length ≤ 1048576) : ∃ t, ftp_inner s = some t ∧ t.length ≤ 1048576 := by
  unfold ftp_inner
  obtain ⟨c1, c2⟩ := cut_len s [40]
  obtain ⟨c3, c4⟩ := cut_len (Lib.cut s [40]).2.1 [41]
  rw [cut_some hs]
  simp only [Option.bind_some]
  rw [cut_some (by omega)]
  simp only [Option.bind_some]
  cases (Lib.cut (Lib.cut s [40]).2.1 [41]).2.2 with
  | false => exact ⟨[], rfl, by simp⟩
  | true => exact ⟨_, rfl, by omega⟩
theorem hasPrefix_some (a b : By) : ∃ x, strings_HasPrefix a b = some x := by
  unfold strings_HasPrefix i_stringslite_HasPrefix
  by_cases h : (a.length : Int) ≥ (b.length : Int)
  · rw [bif_dec h, bif_dec (by omega), bif_dec (by omega)]; exact ⟨_, rfl⟩
  · rw [bif_ndec h]; exact ⟨_, rfl⟩
theorem hasSuffix_some {a b : By} (ha : a.length ≤ 1048576) : ∃ x, strings_HasSuffix a b = some x := by
  unfold strings_HasSuffix i_stringslite_HasSuffix
  by_cases h : (a.length : Int) ≥ (b.length : Int)
  · have w : IntKind.i64.wrap ((a.length : Int) - (b.length : Int)) = (a.length : Int) - (b.length : Int) := wrap_i64 (by omega) (by omega)
    rw [bif_dec h, w, bif_dec (by omega), bif_dec (by omega)]; exact ⟨_, rfl⟩
  · rw [bif_ndec h]; exact ⟨_, rfl⟩
theorem extended_fine {s : By} (hs : s.length ≤ 1048576) : ∃ r, ftp_extended s = some r ∧ Fine r := by
  have herr : ∃ r, (some errQ : Option (AskT × Bool)) = some r ∧ Fine r := ⟨errQ, rfl, fine_err⟩
  unfold ftp_extended ftp_extended_p11
  obtain ⟨b, hb, _⟩ := mark_eq s
  rw [hb]
  simp only [Option.bind_some]
  cases b with
  | false => exact herr
  | true =>
    have hd : (s.take 1).length ≤ 1 := by simp; omega
    generalize s.take 1 = d at hd
    simp only [Bool.not_true, cond_false]
    rw [decide_eq_true (Nat.lt_of_le_of_lt (show d.length + d.length ≤ 2 by omega) (by decide)), decide_eq_true (Nat.lt_of_le_of_lt (show (d ++ d).length + d.length ≤ 3 by simp only [List.length_append]; omega) (by decide))]
    obtain ⟨x, hx⟩ := hasPrefix_some s ((d ++ d) ++ d)
    obtain ⟨y, hy⟩ := hasSuffix_some (b := d) hs
    simp only [cond_true]
    rw [hx]
    simp only [Option.bind_some]
    cases x with
    | false => exact herr
    | true =>
      simp only [Bool.not_true, cond_false]
      by_cases h5 : (s.length : Int) < 5
      · rw [bif_dec h5]; exact herr
      · rw [bif_ndec h5, hy]
        simp only [Option.bind_some]
        cases y with
        | false => exact herr
        | true =>
          simp only [Bool.not_true, cond_false, Option.bind_some, Sum.elim_inl]
          have w : IntKind.i64.wrap ((s.length : Int) - 1) = (s.length : Int) - 1 := wrap_i64 (by omega) (by omega)
          rw [w, bif_dec (by omega), bif_dec (by omega)]
          obtain ⟨z, hz, hv⟩ := port_tells (s := (s.drop 3).take (((s.length : Int) - 1).toNat - 3)) (by simp; omega)
          rw [hz]
          simp only [Option.bind_some]
          cases hm : portM ((s.drop 3).take (((s.length : Int) - 1).toNat - 3)) with
          | none => exact herr
          | some n =>
            have hn := hv n hm
            subst hn
            have hr := portM_range hm
            refine ⟨_, rfl, fun _ => ⟨?_, ?_⟩⟩
            · simp only; omega
            · simp only; omega
/-! ### A line -/
def wPort : By := [80, 79, 82, 84, 32]
def wEprt : By := [69, 80, 82, 84, 32]
theorem place_fine (fam : Int) {side : Int} {s : By} (hs : s.length ≤ 1048576) : ∃ r, ftp_Place fam side s = some r ∧ Fine r ∧
    (side = 0 → r.2 = true → r.1.2.1.1 = fam ∧ ((s.take 5).map upB = wPort ∨ (s.take 5).map upB = wEprt)) ∧ (side = 1 → r.2 = true → s.take 4 = [50, 50, 55, 32] ∨ s.take 4 = [50, 50, 57, 32]) := by
  have herr : ∃ r, (some errQ : Option (AskT × Bool)) = some r ∧ Fine r ∧ (side = 0 → r.2 = true → r.1.2.1.1 = fam ∧ ((s.take 5).map upB = wPort ∨ (s.take 5).map upB = wEprt)) ∧ (side = 1 → r.2 = true → s.take 4 = [50, 50, 55, 32] ∨ s.take 4 = [50, 50, 57, 32]) :=
    ⟨errQ, rfl, fine_err, (fun _ h => by cases h), (fun _ h => by cases h)⟩
  unfold ftp_Place
  have hp5 : ftp_Place_p5 (fam, side, s, 0, 0, 0, 0, 0) = some (.inr errQ) ∨ (ftp_Place_p5 (fam, side, s, 0, 0, 0, 0, 0) = some (.inl (fam, side, s, 0, 0, 0, 0, 0)) ∧ (fam = 4 ∨ fam = 6) ∧ 5 ≤ s.length) := by
    unfold ftp_Place_p5
    simp only
    by_cases h4 : fam = 4
    · rw [show (fam != 4) = false by rw [h4]; rfl, cond_false]
      by_cases a1 : (s.length : Int) > 512
      · rw [bif_dec a1]; exact .inl rfl
      · rw [bif_ndec a1]
        by_cases a2 : (s.length : Int) < 5
        · rw [bif_dec a2]; exact .inl rfl
        · rw [bif_ndec a2]; exact .inr ⟨rfl, .inl h4, by omega⟩
    · rw [show (fam != 4) = true by rw [bne_iff_ne]; exact h4, cond_true]
      by_cases h6 : fam = 6
      · rw [show (fam != 6) = false by rw [h6]; rfl, cond_false]
        by_cases a1 : (s.length : Int) > 512
        · rw [bif_dec a1]; exact .inl rfl
        · rw [bif_ndec a1]
          by_cases a2 : (s.length : Int) < 5
          · rw [bif_dec a2]; exact .inl rfl
          · rw [bif_ndec a2]; exact .inr ⟨rfl, .inr h6, by omega⟩
      · rw [show (fam != 6) = true by rw [bne_iff_ne]; exact h6]
        exact .inl rfl
  rcases hp5 with h | ⟨h, hf, h5⟩
  · rw [h]
    exact herr
  · rw [h]
    simp only [Option.bind_some, Sum.elim_inl]
    by_cases s0 : side = 0
    · rw [show (side == 0) = true by rw [s0]; rfl, cond_true, bif_dec (show (5 : Int) ≤ (s.length : Int) by omega), caps_eq (by simp; omega)]
      simp only [Option.bind_some]
      rw [map_eq (K := [80, 79, 82, 84, 32]) (by decide), map_eq (K := [69, 80, 82, 84, 32]) (by decide)]
      have htl : ((s.drop 5).take (s.length - 5)).length ≤ 1048576 := by simp; omega
      cases hP : ((s.take 5).map upB == ([80, 79, 82, 84, 32] : By)) with
      | true =>
        simp only [cond_true]
        by_cases f4 : fam = 4
        · rw [show (fam == 4) = true by rw [f4]; rfl, cond_true]
          obtain ⟨r, hr, h1, h2⟩ := six_fine htl
          rw [bif_dec (show (5 : Int) ≤ (s.length : Int) by omega), hr]
          exact ⟨r, rfl, h1, (fun _ h => ⟨by rw [h2 h, f4], .inl (eq_of_beq hP)⟩), (fun e => by rw [s0] at e; cases e)⟩
        · rw [show (fam == 4) = false by rw [beq_eq_false_iff_ne]; exact f4]
          exact herr
      | false =>
        simp only [cond_false]
        cases hE : ((s.take 5).map upB == ([69, 80, 82, 84, 32] : By)) with
        | true =>
          simp only [cond_true]
          obtain ⟨r, hr, h1, h2⟩ := eprt_fine hf htl
          rw [bif_dec (show (5 : Int) ≤ (s.length : Int) by omega), hr]
          exact ⟨r, rfl, h1, (fun _ h => ⟨h2 h, .inr (eq_of_beq hE)⟩), (fun e => by rw [s0] at e; cases e)⟩
        | false => exact herr
    · rw [show (side == 0) = false by rw [beq_eq_false_iff_ne]; exact s0, cond_false]
      by_cases s1 : side = 1
      · rw [show (side == 1) = true by rw [s1]; rfl, cond_true, bif_dec (show (4 : Int) ≤ (s.length : Int) by omega)]
        obtain ⟨t, ht, htl⟩ := inner_some hs
        cases hP : (s.take 4 == ([50, 50, 55, 32] : By)) with
        | true =>
          simp only [cond_true]
          by_cases f4 : fam = 4
          · rw [show (fam == 4) = true by rw [f4]; rfl, cond_true, ht]
            simp only [Option.bind_some]
            obtain ⟨r, hr, h1, h2⟩ := six_fine htl
            rw [hr]
            exact ⟨r, rfl, h1, fun e => absurd e s0, fun _ _ => .inl (eq_of_beq hP)⟩
          · rw [show (fam == 4) = false by rw [beq_eq_false_iff_ne]; exact f4]
            exact herr
        | false =>
          simp only [cond_false]
          cases hE : (s.take 4 == ([50, 50, 57, 32] : By)) with
          | true =>
            simp only [cond_true]
            rw [ht]
            simp only [Option.bind_some]
            obtain ⟨r, hr, h1⟩ := extended_fine htl
            rw [hr]
            exact ⟨r, rfl, h1, fun e => absurd e s0, fun _ _ => .inr (eq_of_beq hE)⟩
          | false => exact herr
      · rw [show (side == 1) = false by rw [beq_eq_false_iff_ne]; exact s1]
        exact herr
end Go.Proofs.YtpkhlncohbakkaaDoor.Jv
