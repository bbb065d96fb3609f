/- The text and the key of a way, by both; conditions: none. -/
import Derived.Test.YtgldfdpdjlohiaaDoorTexts6
namespace Go.Proofs.YtgldfdpdjlohiaaDoor.Jv
open Go
set_option linter.unusedSectionVars false
set_option linter.unusedVariables false
set_option linter.unusedSimpArgs false
instance (f : Int) (h l : Nat) : Decidable (okA f h l) := by unfold okA; infer_instance
/-- An address's text. -/
def textA (f : Int) (h l : Nat) : List UInt8 := if f = 4 then joinB [46] (d4 (octs 4 0 l)) else text6 (gsOf (octs 6 h l))
theorem addr_Text_eq {f : Int} {h l : Nat} (ho : okA f h l) : addr_Text (f, (h : Int), (l : Int)) = some (textA f h l) := by
  rcases ho with ⟨rfl, rfl, hl⟩ | ⟨rfl, hh, hl⟩
  · rw [(text4 hl).1]; rfl
  · rw [addr_text6 hh hl]; rfl
theorem ref02_Text_eq {f : Int} {h l : Nat} (ho : okA f h l) : ref02_Text (f, (h : Int), (l : Int)) = some (textA f h l) := by
  rcases ho with ⟨rfl, rfl, hl⟩ | ⟨rfl, hh, hl⟩
  · rw [(text4 hl).2]; rfl
  · rw [ref_text6 hh hl]; rfl
theorem textA_len (f : Int) (h l : Nat) : (textA f h l).length ≤ 100 := by
  unfold textA
  split
  · have h1 := joinB_len 46 (d4 (octs 4 0 l)) 20 fun x hx => by
      obtain ⟨y, _, rfl⟩ := List.mem_map.1 hx
      exact d10_len _
    have h2 : (d4 (octs 4 0 l)).length = 4 := by simp [d4, octs, octN]
    rw [h2] at h1
    omega
  · have := text6_len (gs_len (octs 6 h l))
    omega
/-- An address and a port. -/
def endA (f : Int) (h l : Nat) (p : Nat) : List UInt8 := (if f = 6 then [91] ++ textA f h l ++ [93] else textA f h l) ++ [58] ++ digs 10 20 p
theorem endA_len (f : Int) (h l : Nat) (p : Nat) : (endA f h l p).length ≤ 130 := by
  have h1 := textA_len f h l
  have h2 := d10_len p
  unfold endA
  split <;> (simp only [List.length_append, List.length_cons, List.length_nil]; omega)
theorem small62 {n : Nat} (h : n ≤ 2000) : decide (n < 2 ^ 62) = true := decide_eq_true (Nat.lt_of_le_of_lt h (by decide))
theorem tuple_end_eq {f : Int} {h l : Nat} (ho : okA f h l) {p : Nat} (hp : p ≤ 65535) : tuple_end (f, (h : Int), (l : Int)) (p : Int) = some (endA f h l p) := by
  have h1 := textA_len f h l
  have h2 := d10_len p
  unfold tuple_end endA
  simp only [addr_Text_eq ho, Option.bind_some, itoa_digs (show p < 9223372036854775808 by omega)]
  by_cases h6 : f = 6
  · have e6 : (f == 6) = true := beq_iff_eq.2 h6
    rw [if_pos h6, e6, cond_true]
    rw [small62 (by omega), small62 (by simp only [List.length_append, List.length_cons, List.length_nil]; omega), small62 (by simp only [List.length_append, List.length_cons, List.length_nil]; omega), small62 (by simp only [List.length_append, List.length_cons, List.length_nil]; omega)]
    rfl
  · have e6 : (f == 6) = false := beq_eq_false_iff_ne.2 h6
    rw [if_neg h6, e6, cond_false]
    rw [small62 (by omega), small62 (by simp only [List.length_append, List.length_cons, List.length_nil]; omega)]
    rfl
theorem ref14_end_eq {f : Int} {h l : Nat} (ho : okA f h l) {p : Nat} (hp : p ≤ 65535) : ref14_end (f, (h : Int), (l : Int)) (p : Int) = some (endA f h l p) := by
  have h1 := textA_len f h l
  have h2 := d10_len p
  unfold ref14_end endA
  simp only [ref02_Text_eq ho, Option.bind_some, digits10 (show p < 9223372036854775807 by omega)]
  by_cases h6 : f = 6
  · have e6 : (f == 6) = true := beq_iff_eq.2 h6
    rw [if_pos h6, e6, cond_true]
    rw [small62 (by omega), small62 (by simp only [List.length_append, List.length_cons, List.length_nil]; omega), small62 (by simp only [List.length_append, List.length_cons, List.length_nil]; omega), small62 (by simp only [List.length_append, List.length_cons, List.length_nil]; omega)]
    rfl
  · have e6 : (f == 6) = false := beq_eq_false_iff_ne.2 h6
    rw [if_neg h6, e6, cond_false]
    rw [small62 (by omega), small62 (by simp only [List.length_append, List.length_cons, List.length_nil]; omega)]
    rfl
/-! ### Which ways may be -/
theorem addr_Right_eq {f : Int} {h l : Nat} (hh : h < 18446744073709551616) (hl : l < 18446744073709551616) : addr_Right (f, (h : Int), (l : Int)) = some (decide (okA f h l)) ∧ ref02_Right (f, (h : Int), (l : Int)) = some (decide (okA f h l)) := by
  by_cases ho : okA f h l
  · rw [decide_eq_true ho]; exact ⟨addr_Right_ok ho, ref02_Right_ok ho⟩
  · rw [decide_eq_false ho]
    exact (right_cases hh hl).resolve_left ho
def wd (f p : Int) : List UInt8 := if p = 6 then [116, 99, 112] else if p = 17 then [117, 100, 112] else if p = 1 ∧ f = 4 then [105, 99, 109, 112] else if p = 58 ∧ f = 6 then [105, 99, 109, 112, 54] else []
theorem tuple_word_eq (f p : Int) : tuple_word f p = some (wd f p) := by
  unfold tuple_word wd
  by_cases h6 : p = 6
  · subst h6; rfl
  · rw [if_neg h6, beq_eq_false_iff_ne.2 h6, cond_false]
    by_cases h17 : p = 17
    · subst h17; rfl
    · rw [if_neg h17, beq_eq_false_iff_ne.2 h17, cond_false]
      by_cases h1 : p = 1
      · subst h1
        by_cases h4 : f = 4
        · subst h4; rfl
        · rw [beq_eq_false_iff_ne.2 h4]; simp [h4]
      · rw [beq_eq_false_iff_ne.2 h1, cond_false]
        by_cases h58 : p = 58
        · subst h58
          by_cases hf : f = 6
          · subst hf; rfl
          · rw [beq_eq_false_iff_ne.2 hf]; simp [hf]
        · rw [beq_eq_false_iff_ne.2 h58]; simp [h1, h58]
theorem wd_some (f p : Int) : (!(wd f p == ([] : List UInt8))) = true ↔ (p = 6 ∨ p = 17 ∨ (p = 1 ∧ f = 4) ∨ (p = 58 ∧ f = 6)) := by
  unfold wd
  split
  · simp_all
  · split
    · simp_all
    · split
      · simp_all
      · split <;> simp_all
structure okW (f p sf : Int) (sh sl : Nat) (df : Int) (dh dl : Nat) (sp dp : Int) : Prop where
  s : sf = f
  d : df = f
  sa : okA sf sh sl
  da : okA df dh dl
  pr : p = 6 ∨ p = 17 ∨ (p = 1 ∧ f = 4) ∨ (p = 58 ∧ f = 6)
  s0 : 0 ≤ sp
  s1 : sp ≤ 65535
  d0 : 0 ≤ dp
  d1 : dp ≤ 65535
theorem tuple_port_eq (a : Int) : tuple_port a = some (decide (a ≥ 0) && decide (a ≤ 65535)) := by
  unfold tuple_port
  cases decide (a ≥ 0) <;> rfl
section
variable {f p sf df sp dp : Int} {sh sl dh dl : Nat} (h1 : sh < 18446744073709551616) (h2 : sl < 18446744073709551616) (h3 : dh < 18446744073709551616) (h4 : dl < 18446744073709551616)
include h1 h2 h3 h4
theorem tuple_Right_eq : ∃ b, tuple_Right (f, p, (sf, (sh : Int), (sl : Int)), (df, (dh : Int), (dl : Int)), sp, dp) = some b ∧ (b = true ↔ okW f p sf sh sl df dh dl sp dp) := by
  refine ⟨(sf == f) && ((df == f) && (decide (okA sf sh sl) && (decide (okA df dh dl) && ((!(wd f p == ([] : List UInt8))) && ((decide (sp ≥ 0) && decide (sp ≤ 65535)) && (decide (dp ≥ 0) && decide (dp ≤ 65535))))))), ?_, ?_⟩
  · unfold tuple_Right
    simp only [(addr_Right_eq h1 h2).1, (addr_Right_eq h3 h4).1, tuple_word_eq, tuple_port_eq, Option.bind_some]
    cases (sf == f) <;> cases (df == f) <;> cases decide (okA sf sh sl) <;> cases decide (okA df dh dl) <;> cases (!(wd f p == ([] : List UInt8))) <;> cases (decide (sp ≥ 0) && decide (sp ≤ 65535)) <;> rfl
  · simp only [Bool.and_eq_true, decide_eq_true_eq, beq_iff_eq]
    rw [wd_some]
    exact ⟨fun ⟨a, b, c, d, e, ⟨g, h⟩, i, j⟩ => ⟨a, b, c, d, e, g, h, i, j⟩, fun ⟨a, b, c, d, e, g, h, i, j⟩ => ⟨a, b, c, d, e, ⟨g, h⟩, i, j⟩⟩
theorem ends_eq : ref05_Ends f (sf, (sh : Int), (sl : Int)) (df, (dh : Int), (dl : Int)) = some ((sf == f) && ((df == f) && (decide (okA sf sh sl) && decide (okA df dh dl)))) := by
  unfold ref05_Ends
  simp only [(addr_Right_eq h1 h2).2, (addr_Right_eq h3 h4).2, Option.bind_some]
  by_cases h4' : f = 4
  · rw [beq_iff_eq.2 h4', cond_true]
    cases (sf == f) <;> cases (df == f) <;> cases decide (okA sf sh sl) <;> rfl
  · rw [beq_eq_false_iff_ne.2 h4', cond_false]
    by_cases h6 : f = 6
    · rw [beq_iff_eq.2 h6, cond_true]
      cases (sf == f) <;> cases (df == f) <;> cases decide (okA sf sh sl) <;> rfl
    · rw [beq_eq_false_iff_ne.2 h6, cond_false]
      congr 1
      symm
      rw [Bool.eq_false_iff]
      intro hx
      simp only [Bool.and_eq_true, decide_eq_true_eq, beq_iff_eq] at hx
      rcases hx.2.2.1 with ⟨g, _⟩ | ⟨g, _⟩
      · exact h4' (hx.1.symm.trans g)
      · exact h6 (hx.1.symm.trans g)
theorem ref14_Right_eq : ∃ b, ref14_Right (f, p, (sf, (sh : Int), (sl : Int)), (df, (dh : Int), (dl : Int)), sp, dp) = some b ∧ (b = true ↔ okW f p sf sh sl df dh dl sp dp) := by
  have hi : ref05_Icmp f = some (bif f == 4 then 1 else 58) := by unfold ref05_Icmp; cases (f == 4) <;> rfl
  refine ⟨decide (sp ≥ 0) && (decide (sp ≤ 65535) && (decide (dp ≥ 0) && (((sf == f) && ((df == f) && (decide (okA sf sh sl) && decide (okA df dh dl)))) && (((p == 6) || ((p == 17) || (p == (bif f == 4 then 1 else 58)))) && decide (dp ≤ 65535))))), ?_, ?_⟩
  · unfold ref14_Right
    simp only [ends_eq h1 h2 h3 h4, hi, Option.bind_some]
    cases decide (sp ≥ 0) <;> cases decide (sp ≤ 65535) <;> cases decide (dp ≥ 0) <;> cases ((sf == f) && ((df == f) && (decide (okA sf sh sl) && decide (okA df dh dl)))) <;> cases (p == 6) <;> cases (p == 17) <;> cases (p == (bif f == 4 then 1 else 58)) <;> rfl
  · simp only [Bool.and_eq_true, Bool.or_eq_true, decide_eq_true_eq, beq_iff_eq]
    constructor
    · rintro ⟨a, b, c, ⟨d, e, g, h⟩, i, j⟩
      refine ⟨d, e, g, h, ?_, a, b, c, j⟩
      rcases i with i | i | i
      · exact .inl i
      · exact .inr (.inl i)
      · rcases g with ⟨g, _⟩ | ⟨g, _⟩
        · have : f = 4 := d.symm.trans g
          subst this
          exact .inr (.inr (.inl ⟨i, rfl⟩))
        · have : f = 6 := d.symm.trans g
          subst this
          exact .inr (.inr (.inr ⟨i, rfl⟩))
    · rintro ⟨d, e, g, h, i, a, b, c, j⟩
      refine ⟨a, b, c, ⟨d, e, g, h⟩, ?_, j⟩
      rcases i with i | i | ⟨i, rfl⟩ | ⟨i, rfl⟩
      · exact .inl i
      · exact .inr (.inl i)
      · exact .inr (.inr i)
      · exact .inr (.inr i)
end
/-! ### The text of a way -/
def textW (f p sf : Int) (sh sl : Nat) (df : Int) (dh dl : Nat) (sp dp : Nat) : List UInt8 := wd f p ++ [32] ++ endA sf sh sl sp ++ [32, 62, 32] ++ endA df dh dl dp
theorem wd_len (f p : Int) : (wd f p).length ≤ 5 := by
  unfold wd
  split
  · decide
  · split
    · decide
    · split
      · decide
      · split <;> decide
theorem tuple_Text_ok {f p sf df : Int} {sh sl dh dl sp dp : Nat} (h1 : sh < 18446744073709551616) (h2 : sl < 18446744073709551616) (h3 : dh < 18446744073709551616) (h4 : dl < 18446744073709551616) (hw : okW f p sf sh sl df dh dl sp dp) :
    tuple_Text (f, p, (sf, (sh : Int), (sl : Int)), (df, (dh : Int), (dl : Int)), (sp : Int), (dp : Int)) = some (textW f p sf sh sl df dh dl sp dp) := by
  obtain ⟨b, g1, g2⟩ := tuple_Right_eq (f := f) (p := p) (sf := sf) (df := df) (sp := (sp : Int)) (dp := (dp : Int)) h1 h2 h3 h4
  rw [g2.2 hw] at g1
  have l1 := wd_len f p
  have l2 := endA_len sf sh sl sp
  have l3 := endA_len df dh dl dp
  have hs1 := hw.s1
  have hd1 := hw.d1
  unfold tuple_Text textW
  simp only [g1, Option.bind_some, Bool.not_true, cond_false, tuple_word_eq, tuple_end_eq hw.sa (p := sp) (by omega), tuple_end_eq hw.da (p := dp) (by omega)]
  rw [small62 (by omega), small62 (by simp only [List.length_append, List.length_cons, List.length_nil]; omega), small62 (by simp only [List.length_append, List.length_cons, List.length_nil]; omega), small62 (by simp only [List.length_append, List.length_cons, List.length_nil]; omega)]
  rfl
theorem ref_word {f p : Int} (s : List UInt8) (r : Int × Int × Int × Int × Int × Int × Int × Int) (hp : p = 6 ∨ p = 17 ∨ (p = 1 ∧ f = 4) ∨ (p = 58 ∧ f = 6)) (hs : s = [105, 99, 109, 112, 54, 32]) :
    ref14_Text_p23 (s, f, p, r) = some (wd f p ++ [32], f, p, r) := by
  unfold ref14_Text_p23
  rcases hp with rfl | rfl | ⟨rfl, rfl⟩ | ⟨rfl, rfl⟩
  · rfl
  · rfl
  · rfl
  · subst hs; rfl
theorem ref14_Text_ok {f p sf df : Int} {sh sl dh dl sp dp : Nat} (h1 : sh < 18446744073709551616) (h2 : sl < 18446744073709551616) (h3 : dh < 18446744073709551616) (h4 : dl < 18446744073709551616) (hw : okW f p sf sh sl df dh dl sp dp) :
    ref14_Text (f, p, (sf, (sh : Int), (sl : Int)), (df, (dh : Int), (dl : Int)), (sp : Int), (dp : Int)) = some (textW f p sf sh sl df dh dl sp dp) := by
  obtain ⟨b, g1, g2⟩ := ref14_Right_eq (f := f) (p := p) (sf := sf) (df := df) (sp := (sp : Int)) (dp := (dp : Int)) h1 h2 h3 h4
  rw [g2.2 hw] at g1
  have l1 := wd_len f p
  have l2 := endA_len sf sh sl sp
  have l3 := endA_len df dh dl dp
  have hs1 := hw.s1
  have hd1 := hw.d1
  unfold ref14_Text textW
  simp only [g1, Option.bind_some, Bool.not_true, cond_false, ref_word _ _ hw.pr rfl, ref14_end_eq hw.sa (p := sp) (by omega), ref14_end_eq hw.da (p := dp) (by omega)]
  rw [small62 (by simp only [List.length_append, List.length_cons, List.length_nil]; omega), small62 (by simp only [List.length_append, List.length_cons, List.length_nil]; omega), small62 (by simp only [List.length_append, List.length_cons, List.length_nil]; omega)]
  rfl
theorem texts_same {f p sf df sp dp : Int} {sh sl dh dl : Nat} (h1 : sh < 18446744073709551616) (h2 : sl < 18446744073709551616) (h3 : dh < 18446744073709551616) (h4 : dl < 18446744073709551616) :
    ∃ s, tuple_Text (f, p, (sf, (sh : Int), (sl : Int)), (df, (dh : Int), (dl : Int)), sp, dp) = some s ∧ ref14_Text (f, p, (sf, (sh : Int), (sl : Int)), (df, (dh : Int), (dl : Int)), sp, dp) = some s := by
  by_cases hw : okW f p sf sh sl df dh dl sp dp
  · obtain ⟨n, rfl⟩ : ∃ n : Nat, sp = (n : Int) := ⟨sp.toNat, by have := hw.s0; omega⟩
    obtain ⟨m, rfl⟩ : ∃ m : Nat, dp = (m : Int) := ⟨dp.toNat, by have := hw.d0; omega⟩
    exact ⟨_, tuple_Text_ok h1 h2 h3 h4 hw, ref14_Text_ok h1 h2 h3 h4 hw⟩
  · obtain ⟨b, g1, g2⟩ := tuple_Right_eq (f := f) (p := p) (sf := sf) (df := df) (sp := sp) (dp := dp) h1 h2 h3 h4
    obtain ⟨c, g3, g4⟩ := ref14_Right_eq (f := f) (p := p) (sf := sf) (df := df) (sp := sp) (dp := dp) h1 h2 h3 h4
    have hb : b = false := by rw [Bool.eq_false_iff]; exact fun h => hw (g2.1 h)
    have hc : c = false := by rw [Bool.eq_false_iff]; exact fun h => hw (g4.1 h)
    subst hb hc
    refine ⟨[], ?_, ?_⟩
    · unfold tuple_Text; simp only [g1, Option.bind_some, Bool.not_false, cond_true]
    · unfold ref14_Text; simp only [g3, Option.bind_some, Bool.not_false, cond_true]
abbrev tyTuple : Ty := .pair (.int .i64) (.pair (.int .i64) (.pair (.pair (.int .i64) (.pair (.int .u64) (.int .u64))) (.pair (.pair (.int .i64) (.pair (.int .u64) (.int .u64))) (.pair (.int .i64) (.int .i64)))))
theorem open_tuple (y : T tyTuple) (h : okT tyTuple y) : ∃ (f p sf df sp dp : Int) (sh sl dh dl : Nat), y = (f, p, (sf, (sh : Int), (sl : Int)), (df, (dh : Int), (dl : Int)), sp, dp) ∧ sh < 18446744073709551616 ∧ sl < 18446744073709551616 ∧ dh < 18446744073709551616 ∧ dl < 18446744073709551616 := by
  obtain ⟨f, p, ⟨sf, sh, sl⟩, ⟨df, dh, dl⟩, sp, dp⟩ := y
  obtain ⟨_, _, ⟨_, a, b⟩, ⟨_, c, d⟩, _, _⟩ := h
  obtain ⟨a', rfl, ha⟩ := u64_nat a
  obtain ⟨b', rfl, hb⟩ := u64_nat b
  obtain ⟨c', rfl, hc⟩ := u64_nat c
  obtain ⟨d', rfl, hd⟩ := u64_nat d
  exact ⟨f, p, sf, df, sp, dp, a', b', c', d', rfl, ha, hb, hc, hd⟩
theorem key_same (t : T tyTuple) (a b c d : Int) : tuple_KeyOf t a b c d = ref14_KeyOf t a b c d := rfl
theorem key_some (t : T tyTuple) (a b c d : Int) : ∃ k, tuple_KeyOf t a b c d = some k := by
  unfold tuple_KeyOf
  cases (t.2.1 == 1) <;> cases (t.2.1 == 58) <;> exact ⟨_, rfl⟩
theorem tupleTexts_ok (y : T tyTuple) (a b : Int) (h : okT tyTuple y) (_ : okT (.int .i64) a) (_ : okT (.int .i64) b) : law14_TupleTexts y a b = some true := by
  obtain ⟨f, p, sf, df, sp, dp, sh, sl, dh, dl, rfl, h1, h2, h3, h4⟩ := open_tuple y h
  obtain ⟨s, g1, g2⟩ := texts_same (f := f) (p := p) (sf := sf) (df := df) (sp := sp) (dp := dp) h1 h2 h3 h4
  obtain ⟨k, g3⟩ := key_some (f, p, (sf, (sh : Int), (sl : Int)), (df, (dh : Int), (dl : Int)), sp, dp) a b b a
  have g4 := g3
  rw [key_same] at g4
  unfold law14_TupleTexts
  simp only [g1, g2, g3, g4, Option.bind_some, beq_self_eq_true, Bool.and_self, cond_true, law14_alive]
end Go.Proofs.YtgldfdpdjlohiaaDoor.Jv
