/- Letters' sizes, blanks, heads and tails of texts, by both; conditions: none. -/
import Derived.Test.YtfaofikhabccoaaGreatDoorNum20
import Derived.Lib.TrimAscii
import Derived.Lib.MapLaws
namespace Go.Proofs.YtfaofikhabccoaaGreatDoor.Jv
open Go A
set_option linter.unusedSectionVars false
set_option linter.unusedVariables false
set_option linter.unusedSimpArgs false
/-! ### Capital letters -/
def upB (c : UInt8) : UInt8 := if 97 ≤ c.toNat ∧ c.toNat ≤ 122 then c - 32 else c
theorem upB_nat (c : UInt8) : (upB c).toNat = if 97 ≤ c.toNat ∧ c.toNat ≤ 122 then c.toNat - 32 else c.toNat := by
  unfold upB
  split
  · have h32 : (32 : UInt8).toNat = 32 := rfl
    rw [UInt8.toNat_sub_of_le _ _ (by rw [UInt8.le_iff_toNat_le]; omega)]
    omega
  · rfl
theorem upper_step {l : By} {i : Nat} (hi : i < l.length) (hl : l.length ≤ 4194304) : ref18_Upper_p43b ((i : Int), l) = some (.inl (((i + 1 : Nat) : Int), l.set i (upB l[i]))) := by
  have e1 : IntKind.i64.wrap ((i : Int) + 1) = ((i + 1 : Nat) : Int) := by rw [wrap_i64 (by omega) (by omega)]; omega
  unfold ref18_Upper_p43b
  simp only
  have h0 : (0 : Int) ≤ (i : Int) := by omega
  have h1 : (i : Int) < (l.length : Int) := by omega
  simp only [decide_eq_true h0, decide_eq_true h1, cond_true, Int.toNat_natCast, List.getElem?_eq_getElem hi, Option.bind_some, e1]
  unfold upB
  by_cases a1 : 97 ≤ l[i].toNat
  · rw [bif_dec (by omega)]
    by_cases a2 : l[i].toNat ≤ 122
    · rw [bif_dec (by omega), if_pos ⟨a1, a2⟩]
      have e2 : UInt8.ofNat (IntKind.u8.wrap ((l[i].toNat : Int) - 32)).toNat = l[i] - 32 := by
        rw [wrap_u8 (by omega) (by omega)]
        refine UInt8.toNat_inj.1 ?_
        have h32 : (32 : UInt8).toNat = 32 := rfl
        rw [UInt8.toNat_sub_of_le _ _ (by rw [UInt8.le_iff_toNat_le]; omega), UInt8.toNat_ofNat']
        omega
      rw [e2]
    · rw [bif_ndec (by omega), if_neg (fun h => a2 h.2)]
      simp
  · rw [bif_ndec (by omega), if_neg (fun h => a1 h.1)]
    simp
theorem upper_loop {s : By} (hs : s.length ≤ 4194304) : ∀ k i, i + k = s.length → ref18_Upper_p43 ((i : Int), (s.take i).map upB ++ s.drop i) = some (s.map upB) := by
  intro k
  induction k with
  | zero =>
    intro i h
    unfold ref18_Upper_p43
    refine iter_end ?_
    have hl : ((s.take i).map upB ++ s.drop i).length = s.length := by simp; omega
    unfold ref18_Upper_p43b
    simp only
    rw [hl, bif_ndec (by omega), List.take_of_length_le (by omega), List.drop_eq_nil_of_le (by omega), List.append_nil]
  | succ k ih =>
    intro i h
    have hi : i < s.length := by omega
    have hl : ((s.take i).map upB ++ s.drop i).length = s.length := by simp; omega
    unfold ref18_Upper_p43
    refine (iter_go (upper_step (l := (s.take i).map upB ++ s.drop i) (i := i) (by omega) (by omega))).trans ?_
    have hset : ((s.take i).map upB ++ s.drop i).set i (upB ((s.take i).map upB ++ s.drop i)[i]) = (s.take (i + 1)).map upB ++ s.drop (i + 1) := by
      have hg : ((s.take i).map upB ++ s.drop i)[i]'(by omega) = s[i] := by
        rw [List.getElem_append_right (by rw [List.length_map, List.length_take]; exact Nat.min_le_left _ _)]
        simp [show min i s.length = i by omega]
      have hz : i - ((s.take i).map upB).length = 0 := by rw [List.length_map, List.length_take]; omega
      rw [hg, List.set_append_right _ _ (by rw [List.length_map, List.length_take]; exact Nat.min_le_left _ _), List.take_succ_eq_append_getElem hi, List.map_append, List.append_assoc, hz]
      congr 1
      rw [List.drop_eq_getElem_cons hi, List.set_cons_zero]
      rfl
    rw [hset]
    exact ih (i + 1) (by omega)
theorem upper_eq {s : By} (hs : s.length ≤ 4194304) : ref18_Upper s = some (s.map upB) := by
  unfold ref18_Upper
  have := upper_loop hs s.length 0 (by omega)
  rw [List.take_zero, List.drop_zero, List.map_nil, List.nil_append] at this
  rw [show ((0 : Int)) = ((0 : Nat) : Int) from rfl, this]
  rfl
/-! ### Small letters -/
def lowB (c : UInt8) : UInt8 := if 65 ≤ c.toNat ∧ c.toNat ≤ 90 then c + 32 else c
theorem lowB_nat (c : UInt8) : (lowB c).toNat = if 65 ≤ c.toNat ∧ c.toNat ≤ 90 then c.toNat + 32 else c.toNat := by
  unfold lowB
  split
  · have h32 : (32 : UInt8).toNat = 32 := rfl
    rw [UInt8.toNat_add, h32]
    omega
  · rfl
theorem encode_ascii {r : Nat} (h : r < 128) : Lib.encodeRune (r : Int) = [UInt8.ofNat r] := by
  unfold Lib.encodeRune
  rw [Lib.encodeRuneZ_one (by omega) (by omega)]
  simp
theorem mapD_ascii : ∀ s : By, (∀ c ∈ s, c.toNat < 128) → Lib.mapD lowR s = s.map lowB
  | [], _ => rfl
  | b :: t, h => by
    have hb := h b (by simp)
    rw [Lib.mapD_step _ _ (by simp), Lib.decodeL_ascii b t hb]
    simp only [List.drop_succ_cons, List.drop_zero, List.map_cons]
    rw [mapD_ascii t fun c hc => h c (by simp [hc])]
    have e : lowR (b.toNat : Int) = ((lowB b).toNat : Int) := by
      rw [lowB_nat]
      unfold lowR
      split <;> split <;> omega
    rw [e, if_pos (by omega), encode_ascii (by rw [lowB_nat]; split <;> omega)]
    simp
theorem encode_big {r : Nat} (h : 128 ≤ r) : ∃ c l, Lib.encodeRune (r : Int) = c :: l ∧ 128 ≤ c.toNat := by
  have big : ∀ x : Int, 128 ≤ x → x < 256 → 128 ≤ (x.toNat.toUInt8).toNat := fun x h0 h1 => by
    simp
    omega
  unfold Lib.encodeRune Lib.encodeRuneZ
  rw [if_neg (by omega)]
  split
  · exact ⟨_, _, rfl, big _ (by omega) (by omega)⟩
  · split
    · exact ⟨_, _, rfl, big _ (by omega) (by omega)⟩
    · split
      · exact ⟨_, _, rfl, big _ (by omega) (by omega)⟩
      · exact ⟨_, _, rfl, big _ (by omega) (by omega)⟩
theorem decode_big {b : UInt8} {t : By} (h : 128 ≤ b.toNat) : 128 ≤ (Lib.decodeL (b :: t)).1 := by
  by_cases hv : (Lib.decodeL (b :: t)).1 = 65533 ∧ (Lib.decodeL (b :: t)).2 = 1
  · omega
  · have h1 := Lib.encode_decode (b :: t) (by simp) hv
    rcases Nat.lt_or_ge (Lib.decodeL (b :: t)).1 128 with hlt | hge
    · rw [encode_ascii hlt] at h1
      have h2 := Lib.decodeL_width (b :: t)
      obtain ⟨k, hk⟩ : ∃ k, (Lib.decodeL (b :: t)).2 = k + 1 := ⟨_, (Nat.sub_add_cancel h2).symm⟩
      rw [hk, List.take_succ_cons] at h1
      have h3 := (List.cons.inj h1).1
      rw [← h3] at h
      rw [UInt8.toNat_ofNat'] at h
      omega
    · exact hge
theorem mapD_big : ∀ s : By, (∃ c ∈ s, 128 ≤ c.toNat) → ∃ c ∈ Lib.mapD lowR s, 128 ≤ c.toNat
  | [], h => by obtain ⟨c, hc, _⟩ := h; cases hc
  | b :: t, h => by
    rw [Lib.mapD_step _ _ (by simp)]
    rcases Nat.lt_or_ge b.toNat 128 with hb | hb
    · rw [Lib.decodeL_ascii b t hb]
      simp only [List.drop_succ_cons, List.drop_zero]
      obtain ⟨c, hc, h1⟩ := h
      rcases List.mem_cons.1 hc with e | e
      · subst e; omega
      · obtain ⟨d, hd, h2⟩ := mapD_big t ⟨c, e, h1⟩
        exact ⟨d, List.mem_append_right _ hd, h2⟩
    · have h1 := decode_big (t := t) hb
      have e : lowR ((Lib.decodeL (b :: t)).1 : Int) = ((Lib.decodeL (b :: t)).1 : Int) := by
        unfold lowR
        rw [if_neg (by omega)]
      rw [e, if_pos (by omega)]
      obtain ⟨c, l, h2, h3⟩ := encode_big h1
      rw [h2]
      exact ⟨c, by simp, h3⟩
theorem map_eq {w K : By} (hK : ∀ c ∈ K, c.toNat < 128) : (Lib.mapD lowR w == K) = (w.map lowB == K) := by
  by_cases h : ∀ c ∈ w, c.toNat < 128
  · rw [mapD_ascii w h]
  · have hx : ∃ c ∈ w, 128 ≤ c.toNat := Classical.byContradiction fun hn => h fun c hc => by
      rcases Nat.lt_or_ge c.toNat 128 with h1 | h1
      · exact h1
      · exact absurd ⟨c, hc, h1⟩ hn
    obtain ⟨d, hd, h1⟩ := mapD_big w hx
    obtain ⟨c, hc, h2⟩ := hx
    have e1 : (Lib.mapD lowR w == K) = false := by
      rw [beq_eq_false_iff_ne]
      intro e
      rw [e] at hd
      have := hK d hd
      omega
    have e2 : (w.map lowB == K) = false := by
      rw [beq_eq_false_iff_ne]
      intro e
      have hm : lowB c ∈ w.map lowB := List.mem_map_of_mem hc
      rw [e] at hm
      have h3 := hK _ hm
      rw [lowB_nat, if_neg (by omega)] at h3
      omega
    rw [e1, e2]
/-- Words told of small letters are told of capital ones. -/
def okW (K : By) : Bool := K.all fun k => decide (k.toNat < 128) && !(decide (65 ≤ k.toNat) && decide (k.toNat ≤ 90))
theorem byte_same (c k : UInt8) (h1 : k.toNat < 128) (h2 : ¬ (65 ≤ k.toNat ∧ k.toNat ≤ 90)) : (lowB c == k) = (upB c == upB k) := by
  rw [Bool.eq_iff_iff, beq_iff_eq, beq_iff_eq]
  have hc := c.toNat_lt
  have e1 : lowB c = k ↔ (lowB c).toNat = k.toNat := ⟨fun h => by rw [h], fun h => UInt8.toNat_inj.1 h⟩
  have e2 : upB c = upB k ↔ (upB c).toNat = (upB k).toNat := ⟨fun h => by rw [h], fun h => UInt8.toNat_inj.1 h⟩
  rw [e1, e2, lowB_nat, upB_nat, upB_nat]
  split <;> split <;> split <;> omega
theorem word_same : ∀ (w K : By), okW K = true → (w.map lowB == K) = (w.map upB == K.map upB)
  | [], [], _ => rfl
  | [], k :: K, _ => rfl
  | c :: w, [], _ => rfl
  | c :: w, k :: K, h => by
    simp only [okW, List.all_cons, Bool.and_eq_true, decide_eq_true_eq, Bool.not_eq_true', Bool.and_eq_false_iff, decide_eq_false_iff_not] at h
    obtain ⟨⟨h1, h2⟩, h3⟩ := h
    have ih := word_same w K h3
    simp only [List.map_cons]
    show (lowB c == k && w.map lowB == K) = (upB c == upB k && w.map upB == K.map upB)
    rw [byte_same c k h1 (by omega), ih]
theorem small_word {w K : By} (h : okW K = true) : (Lib.mapD lowR w == K) = (w.map upB == K.map upB) := by
  rw [map_eq fun c hc => ?_, word_same w K h]
  have := List.all_eq_true.1 h c hc
  simp only [Bool.and_eq_true, decide_eq_true_eq] at this
  exact this.1
theorem sip_small_eq {w : By} (h : w.length ≤ 4194304) : sip_small w = some (Lib.mapD lowR w) := by
  unfold sip_small
  rw [decide_eq_true (by omega)]
  rfl
/-! ### Blanks -/
def isB (c : UInt8) : Bool := [32, 9].contains c
theorem isB_iff (c : UInt8) : isB c = true ↔ c = 32 ∨ c = 9 := by simp [isB]
theorem bl_is (c k : UInt8) : (((c.toNat : Nat) : Int) == ((k.toNat : Nat) : Int)) = decide (c = k) := byte_is c k
theorem trim_left : ∀ x : By, x.length ≤ 4194304 → ref20_trimmed_p9 x = some (x.dropWhile isB) := by
  intro x
  induction x with
  | nil =>
    intro _
    unfold ref20_trimmed_p9
    refine iter_end ?_
    rfl
  | cons c l ih =>
    intro h
    have hl : l.length ≤ 4194304 := by simp at h; omega
    have hb : bL (c :: l) 0 = ((c.toNat : Nat) : Int) := bL_at (s := c :: l) (i := 0) (by simp)
    have e32 : (((c.toNat : Nat) : Int) == 32) = decide (c = 32) := byte_is c 32
    have e9 : (((c.toNat : Nat) : Int) == 9) = decide (c = 9) := byte_is c 9
    have ht : ((c :: l).drop 1).take ((c :: l).length - 1) = l := by
      simp
    unfold ref20_trimmed_p9
    by_cases h32 : c = 32
    · rw [List.dropWhile_cons_of_pos ((isB_iff c).2 (.inl h32))]
      refine (iter_go ?_).trans (ih hl)
      unfold ref20_trimmed_p9b
      rw [bif_dec (by simp <;> omega), bif_dec (by simp <;> omega), hb, e32, decide_eq_true h32, cond_true, bif_dec (by simp <;> omega), ht]
    · by_cases h9 : c = 9
      · rw [List.dropWhile_cons_of_pos ((isB_iff c).2 (.inr h9))]
        refine (iter_go ?_).trans (ih hl)
        unfold ref20_trimmed_p9b
        rw [bif_dec (by simp <;> omega), bif_dec (by simp <;> omega), hb, e32, decide_eq_false h32, cond_false, bif_dec (by simp <;> omega), e9, decide_eq_true h9, cond_true, bif_dec (by simp <;> omega), ht]
      · rw [List.dropWhile_cons_of_neg (fun e => ((isB_iff c).1 e).elim h32 h9)]
        refine iter_end ?_
        unfold ref20_trimmed_p9b
        rw [bif_dec (by simp <;> omega), bif_dec (by simp <;> omega), hb, e32, decide_eq_false h32, cond_false, bif_dec (by simp <;> omega), e9, decide_eq_false h9, cond_false]
theorem trim_right : ∀ (n : Nat) (x : By), x.length = n → n ≤ 4194304 → ref20_trimmed_p19 x = some ((x.reverse.dropWhile isB).reverse) := by
  intro n
  induction n with
  | zero =>
    intro x hx _
    have : x = [] := List.eq_nil_of_length_eq_zero hx
    subst this
    unfold ref20_trimmed_p19
    exact iter_end rfl
  | succ n ih =>
    intro x hx hn
    obtain ⟨l, c, rfl⟩ : ∃ l c, x = l ++ [c] := ⟨x.dropLast, x.getLast (by intro e; subst e; cases hx), (List.dropLast_concat_getLast _).symm⟩
    have hl : l.length = n := by simpa using hx
    have hw : IntKind.i64.wrap (((l ++ [c]).length : Int) - 1) = (n : Int) := by
      rw [hx, wrap_i64 (by omega) (by omega)]
      omega
    have hb : bL (l ++ [c]) (n : Int) = ((c.toNat : Nat) : Int) := by
      rw [bL_at (by rw [hx]; omega)]
      simp [hl]
    have e32 : (((c.toNat : Nat) : Int) == 32) = decide (c = 32) := byte_is c 32
    have e9 : (((c.toNat : Nat) : Int) == 9) = decide (c = 9) := byte_is c 9
    have ht : (l ++ [c]).take ((n : Int).toNat - 0) = l := by
      rw [Int.toNat_natCast, Nat.sub_zero, ← hl]
      simp
    rw [List.reverse_append, List.reverse_singleton, List.singleton_append]
    unfold ref20_trimmed_p19
    by_cases h32 : c = 32
    · rw [List.dropWhile_cons_of_pos ((isB_iff c).2 (.inl h32))]
      refine (iter_go ?_).trans (ih l hl (by omega))
      unfold ref20_trimmed_p19b
      rw [hw, bif_dec (by rw [hx]; omega), bif_dec (by omega), bif_dec (by rw [hx]; omega), hb, e32, decide_eq_true h32, cond_true, bif_dec (by omega), bif_dec (by rw [hx]; omega), ht]
    · by_cases h9 : c = 9
      · rw [List.dropWhile_cons_of_pos ((isB_iff c).2 (.inr h9))]
        refine (iter_go ?_).trans (ih l hl (by omega))
        unfold ref20_trimmed_p19b
        rw [hw, bif_dec (by rw [hx]; omega), bif_dec (by omega), bif_dec (by rw [hx]; omega), hb, e32, decide_eq_false h32, cond_false, bif_dec (by omega), bif_dec (by rw [hx]; omega), e9, decide_eq_true h9, cond_true, bif_dec (by omega), bif_dec (by rw [hx]; omega), ht]
      · rw [List.dropWhile_cons_of_neg (fun e => ((isB_iff c).1 e).elim h32 h9)]
        have hrev : (c :: l.reverse).reverse = l ++ [c] := by simp
        rw [hrev]
        refine iter_end ?_
        unfold ref20_trimmed_p19b
        rw [hw, bif_dec (by rw [hx]; omega), bif_dec (by omega), bif_dec (by rw [hx]; omega), hb, e32, decide_eq_false h32, cond_false, bif_dec (by omega), bif_dec (by rw [hx]; omega), e9, decide_eq_false h9, cond_false]
theorem dropWhile_all {p : UInt8 → Bool} : ∀ {l : By}, (∀ x ∈ l, p x = true) → l.dropWhile p = []
  | [], _ => rfl
  | x :: l, h => by rw [List.dropWhile_cons_of_pos (h x (by simp))]; exact dropWhile_all fun y hy => h y (by simp [hy])
theorem dropWhile_app {p : UInt8 → Bool} : ∀ {l m : By}, (∃ x ∈ l, p x = false) → (l ++ m).dropWhile p = l.dropWhile p ++ m
  | [], m, h => by obtain ⟨x, hx, _⟩ := h; cases hx
  | x :: l, m, h => by
    cases hp : p x with
    | true =>
      rw [List.cons_append, List.dropWhile_cons_of_pos hp, List.dropWhile_cons_of_pos hp]
      obtain ⟨y, hy, h1⟩ := h
      rcases List.mem_cons.1 hy with e | e
      · subst e; rw [hp] at h1; cases h1
      · exact dropWhile_app ⟨y, e, h1⟩
    | false =>
      rw [List.cons_append, List.dropWhile_cons_of_neg (by simp [hp]), List.dropWhile_cons_of_neg (by simp [hp]), List.cons_append]
theorem trim_two {p : UInt8 → Bool} : ∀ l : By, ((l.dropWhile p).reverse.dropWhile p).reverse = ((l.reverse.dropWhile p).reverse).dropWhile p
  | [] => rfl
  | x :: l => by
    cases hp : p x with
    | true =>
      rw [List.dropWhile_cons_of_pos hp, trim_two l, List.reverse_cons]
      by_cases hall : ∀ y ∈ l, p y = true
      · rw [dropWhile_all (l := l.reverse) (fun y hy => hall y (by simpa using hy)), dropWhile_all (l := l.reverse ++ [x]) (fun y hy => by
          rcases List.mem_append.1 hy with h | h
          · exact hall y (by simpa using h)
          · rw [List.mem_singleton.1 h]; exact hp)]
      · have hx : ∃ y ∈ l.reverse, p y = false := Classical.byContradiction fun hn => hall fun y hy => by
          cases h : p y with
          | true => rfl
          | false => exact absurd ⟨y, by simpa using hy, h⟩ hn
        rw [dropWhile_app hx, List.reverse_append, List.reverse_singleton, List.singleton_append, List.dropWhile_cons_of_pos hp]
    | false =>
      rw [List.dropWhile_cons_of_neg (by simp [hp]), List.reverse_cons]
      by_cases hall : ∀ y ∈ l, p y = true
      · have e : (l.reverse ++ [x]).dropWhile p = [x] := by
          rw [List.dropWhile_append_of_pos (fun y hy => hall y (by simpa using hy)), List.dropWhile_cons_of_neg (by simp [hp])]
        rw [e, List.reverse_singleton, List.dropWhile_cons_of_neg (by simp [hp])]
      · have hx : ∃ y ∈ l.reverse, p y = false := Classical.byContradiction fun hn => hall fun y hy => by
          cases h : p y with
          | true => rfl
          | false => exact absurd ⟨y, by simpa using hy, h⟩ hn
        rw [dropWhile_app hx, List.reverse_append, List.reverse_singleton, List.singleton_append, List.dropWhile_cons_of_neg (by simp [hp])]
/-- A text without blanks at both ends. -/
def trm (s : By) : By := Lib.trimS s [32, 9]
theorem ref_trim {s : By} (h : s.length ≤ 4194304) : ref20_trimmed s = some (trm s) := by
  unfold ref20_trimmed
  rw [trim_left s h]
  simp only [Option.bind_some]
  have hle : (s.dropWhile isB).length ≤ 4194304 := Nat.le_trans (List.dropWhile_sublist _).length_le h
  rw [trim_right _ _ rfl hle]
  simp only [Option.bind_some]
  rw [trim_two]
  rfl
theorem trm_len (s : By) : (trm s).length ≤ s.length := by
  unfold trm Lib.trimS Lib.trimLeftS Lib.trimRightS
  refine Nat.le_trans (List.dropWhile_sublist _).length_le ?_
  rw [List.length_reverse]
  refine Nat.le_trans (List.dropWhile_sublist _).length_le ?_
  rw [List.length_reverse]
  exact Nat.le_refl _
theorem sip_trim {s : By} (h : s.length ≤ 4194304) : strings_Trim s [32, 9] = some (trm s) := by
  unfold strings_Trim
  rw [decide_eq_true (by omega)]
  rfl
/-! ### Heads and tails -/
def pfx (s p : By) : Bool := Lib.hasPrefix s p
theorem pfx_take (s p : By) : pfx s p = (decide (p.length ≤ s.length) && s.take p.length == p) := by
  unfold pfx
  rw [← Lib.hasPrefix_of_take]
theorem begins_eq {s p : By} : ref20_begins s p = some (pfx s p) := by
  unfold ref20_begins
  rw [pfx_take]
  by_cases h : p.length ≤ s.length
  · rw [bif_dec (by omega), bif_dec (by omega), bif_dec (by omega), decide_eq_true h, Bool.true_and, Nat.sub_zero]
  · rw [bif_ndec (by omega), decide_eq_false h, Bool.false_and]
theorem hasPrefix_eq {s p : By} : bytes_HasPrefix s p = some (pfx s p) := by
  rw [← begins_eq]
  unfold bytes_HasPrefix ref20_begins bytes_Equal
  rfl
def sfx (s p : By) : Bool := decide (p.length ≤ s.length) && s.drop (s.length - p.length) == p
theorem ends_eq {s p : By} (h : s.length ≤ 4194304) (hp : p.length ≤ 4194304) : ref20_ends s p = some (sfx s p) := by
  unfold ref20_ends sfx
  by_cases hl : p.length ≤ s.length
  · have e : IntKind.i64.wrap ((s.length : Int) - (p.length : Int)) = ((s.length - p.length : Nat) : Int) := by rw [wrap_i64 (by omega) (by omega)]; omega
    rw [e, bif_dec (by omega), bif_dec (by omega), bif_dec (by omega), decide_eq_true hl, Bool.true_and, Int.toNat_natCast, List.take_of_length_le (by rw [List.length_drop]; exact Nat.le_refl _)]
  · rw [bif_ndec (by omega), decide_eq_false hl, Bool.false_and]
theorem hasSuffix_eq {s p : By} (h : s.length ≤ 4194304) (hp : p.length ≤ 4194304) : bytes_HasSuffix s p = some (sfx s p) := by
  rw [← ends_eq h hp]
  unfold bytes_HasSuffix ref20_ends bytes_Equal
  rfl
/-! ### A byte's place -/
theorem find_loop {s : By} {c : UInt8} (hs : s.length ≤ 4194304) : ∀ k i, i + k = s.length → c ∉ s.take i →
    ref20_find_p21 (s, (c.toNat : Int), (i : Int)) = some (if c ∈ s then .inr (Lib.indexByte s c) else .inl ()) := by
  intro k
  induction k with
  | zero =>
    intro i h1 h2
    have hc : c ∉ s := by rw [List.take_of_length_le (by omega)] at h2; exact h2
    rw [if_neg hc]
    unfold ref20_find_p21
    refine iter_end ?_
    unfold ref20_find_p21b
    rw [bif_ndec (by simp only; omega)]
  | succ k ih =>
    intro i h1 h2
    have hi : i < s.length := by omega
    have e1 : IntKind.i64.wrap ((i : Int) + 1) = ((i + 1 : Nat) : Int) := by rw [wrap_i64 (by omega) (by omega)]; omega
    have hb : (bL s (i : Int) == (c.toNat : Int)) = decide (s[i] = c) := by rw [bL_at hi]; exact byte_is s[i] c
    by_cases hx : s[i] = c
    · have hm : c ∈ s := hx ▸ List.getElem_mem hi
      have hix : Lib.indexByte s c = (i : Int) := by
        rcases ixb s c with ⟨h3, h4⟩ | ⟨j, h3, h4, h5, h6⟩
        · exact absurd hm h4
        · rcases Nat.lt_trichotomy i j with q | q | q
          · exfalso
            refine h6 ?_
            have : (s.take j)[i]? = some c := by rw [List.getElem?_take, if_pos q, List.getElem?_eq_getElem hi, hx]
            exact List.mem_of_getElem? this
          · rw [h3, q]
          · exfalso
            refine h2 ?_
            have h7 : s[j]? = some c := by
              rw [h5, List.getElem?_append_right (by simp; omega)]
              simp [Nat.min_eq_left (by omega : j ≤ s.length)]
            have : (s.take i)[j]? = some c := by rw [List.getElem?_take, if_pos q, h7]
            exact List.mem_of_getElem? this
      rw [if_pos hm, hix]
      unfold ref20_find_p21
      refine iter_end ?_
      unfold ref20_find_p21b
      simp only
      rw [bif_dec (by omega), bif_dec (by omega), bif_dec (by omega), hb, decide_eq_true hx, cond_true]
    · unfold ref20_find_p21
      refine (iter_go (s' := (s, (c.toNat : Int), ((i + 1 : Nat) : Int))) ?_).trans (ih (i + 1) (by omega) ?_)
      · unfold ref20_find_p21b
        simp only
        rw [bif_dec (by omega), bif_dec (by omega), bif_dec (by omega), hb, decide_eq_false hx, cond_false, e1]
      · rw [List.take_add_one, List.getElem?_eq_getElem hi]
        intro h
        rcases List.mem_append.1 h with h | h
        · exact h2 h
        · have h' : c = s[i] := by simpa using h
          exact hx h'.symm
theorem find_eq {s : By} {c : UInt8} (hs : s.length ≤ 4194304) : ref20_find s c = some (Lib.indexByte s c) := by
  unfold ref20_find
  have h := find_loop (c := c) hs s.length 0 (by omega) (by simp)
  rw [show ref20_find_p21 (s, (c.toNat : Int), 0) = _ from h]
  by_cases hc : c ∈ s
  · rw [if_pos hc]
    rfl
  · rw [if_neg hc]
    rcases ixb s c with ⟨h3, h4⟩ | ⟨j, h3, h4, h5, h6⟩
    · rw [h3]; rfl
    · exact absurd (by rw [h5]; simp) hc
end Go.Proofs.YtfaofikhabccoaaGreatDoor.Jv
