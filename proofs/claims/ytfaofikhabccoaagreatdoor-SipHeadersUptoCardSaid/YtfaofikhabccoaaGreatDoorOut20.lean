/- A description's ports, by both; a message's asks; conditions: none. -/
import Derived.Test.YtfaofikhabccoaaGreatDoorMedia20
namespace Go.Proofs.YtfaofikhabccoaaGreatDoor.Jv
open Go A
set_option linter.unusedSectionVars false
set_option linter.unusedVariables false
set_option linter.unusedSimpArgs false
theorem bif_true {α : Type} {b : Bool} (h : b = true) (x y : α) : (bif b then x else y) = x := by rw [h]; rfl
theorem bif_false {α : Type} {b : Bool} (h : b = false) (x y : α) : (bif b then x else y) = y := by rw [h]; rfl
def famA (all : Ad) (m : Med) : Ad := if (m.2.1 == 0) = true then all else m.2
def outF (all : Ad) (m : Med) : Option Ask := if 0 < m.1 ∧ (famA all m).1 ≠ 0 then some (17, famA all m, m.1) else none
def outs (all : Ad) (l : List Med) : List Ask := l.filterMap (outF all)
theorem famA_ok {all : Ad} {m : Med} (h1 : okA all) (h2 : okA m.2) : okA (famA all m) := by
  unfold famA
  split
  · exact h1
  · exact h2
/-- The next port. -/
def addO (out : List Ask) (o : Option Ask) : List Ask := match o with
  | none => out
  | some a => if out.length < 8 then out ++ [a] else out
theorem fits_ask {n : Nat} (h : n ≤ 4194304) : fits n 40 = true := by
  unfold fits
  exact decide_eq_true (by omega)
theorem addO_len {out : List Ask} (h : out.length ≤ 8) (o : Option Ask) : (addO out o).length ≤ 8 := by
  unfold addO
  split
  · exact h
  · split
    · simp; omega
    · exact h
theorem addO_take {out : List Ask} (h : out.length ≤ 8) (o : Option Ask) (r : List Ask) : (addO out o ++ r).take 8 = (out ++ (o.toList ++ r)).take 8 := by
  unfold addO
  split
  · rfl
  · split
    · simp
    · have : out.length = 8 := by omega
      rw [List.take_append_of_le_length (by omega), List.take_append_of_le_length (by omega)]
theorem outs_cons (all : Ad) (m : Med) (l : List Med) : outs all (m :: l) = (outF all m).toList ++ outs all l := by
  unfold outs
  rw [List.filterMap_cons]
  cases outF all m <;> rfl
/-! ### The program -/
theorem out_key {γ : Type} (F : List Ask → γ) (m : Med) (out : List Ask) (a : Ad) :
    (bif decide (m.1 > 0) then (bif !(a.1 == 0) then (bif decide ((out.length : Int) < 8) then (bif true then some (F (out ++ [(17, (a.1, a.2.1, a.2.2), m.1)])) else none) else some (F out)) else some (F out)) else some (F out)) = some (F (addO out (if 0 < m.1 ∧ a.1 ≠ 0 then some (17, a, m.1) else none))) := by
  by_cases hp : 0 < m.1
  · rw [bif_dec hp]
    by_cases ha : a.1 = 0
    · rw [ha, if_neg (by simp)]; rfl
    · rw [bif_true (by simpa using ha), if_pos ⟨hp, ha⟩]
      unfold addO
      by_cases h8 : out.length < 8
      · rw [bif_dec (by omega)]; simp only [if_pos h8, cond_true]
      · rw [bif_ndec (by omega)]; simp only [if_neg h8]
  · rw [bif_ndec hp, if_neg (by omega)]; rfl
theorem sip_out_step {all : Ad} {l : List Med} (h1 : okA all) (h2 : ∀ m ∈ l, okA m.2) (hl : l.length ≤ 4194305) {i : Nat} (hi : i < l.length) {out : List Ask} (ho : out.length ≤ 8) :
    sip_Media_p703b ((l.length : Int), (i : Int), all.1, all.2.1, all.2.2, out, l) = some (.inl ((l.length : Int), ((i + 1 : Nat) : Int), all.1, all.2.1, all.2.2, addO out (outF all l[i]), l)) := by
  have e1 : IntKind.i64.wrap ((i : Int) + 1) = ((i + 1 : Nat) : Int) := by rw [wrap_i64 (by omega) (by omega)]; omega
  have hm : okA l[i].2 := h2 _ (List.getElem_mem hi)
  unfold sip_Media_p703b
  simp only
  rw [bif_dec (by omega), bif_dec (by omega), bif_dec (by omega), Int.toNat_natCast, List.getElem?_eq_getElem hi, e1, isz_eq h1, fits_ask (by omega)]
  simp only [Option.bind_some]
  generalize l[i] = m at hm
  rw [isz_eq hm]
  unfold outF famA
  cases hz : (m.2.1 == 0) with
  | true =>
    simp only [cond_true, if_true]
    exact out_key (fun o => Sum.inl ((l.length : Int), ((i + 1 : Nat) : Int), all.1, all.2.1, all.2.2, o, l)) m out all
  | false =>
    simp only [cond_false, Bool.false_eq_true, if_false]
    have := out_key (fun o => (Sum.inl ((l.length : Int), ((i + 1 : Nat) : Int), all.1, all.2.1, all.2.2, o, l) : (Int × Int × Int × Int × Int × (List (Int × (Int × Int × Int) × Int)) × List (Int × Int × Int × Int)) ⊕ ((List (Int × (Int × Int × Int) × Int))))) m out m.2
    rw [hz] at this
    exact this
theorem sip_out {all : Ad} {l : List Med} (h1 : okA all) (h2 : ∀ m ∈ l, okA m.2) (hl : l.length ≤ 4194305) : ∀ k i (out : List Ask), i + k = l.length → out.length ≤ 8 →
    sip_Media_p703 ((l.length : Int), (i : Int), all.1, all.2.1, all.2.2, out, l) = some ((out ++ outs all (l.drop i)).take 8) := by
  intro k
  induction k with
  | zero =>
    intro i out h ho
    rw [List.drop_eq_nil_of_le (by omega)]
    unfold sip_Media_p703
    refine iter_end ?_
    unfold sip_Media_p703b
    rw [bif_ndec (by simp only; omega)]
    simp [outs, List.take_of_length_le ho]
  | succ k ih =>
    intro i out h ho
    have hi : i < l.length := by omega
    have st := sip_out_step h1 h2 hl hi ho
    unfold sip_Media_p703
    rw [iter_go st, List.drop_eq_getElem_cons hi, outs_cons, ← addO_take ho]
    exact ih (i + 1) _ (by omega) (addO_len ho _)
/-! ### The reference -/
theorem ref_out_step {all : Ad} {l : List Med} (hl : l.length ≤ 4194305) {i : Nat} (hi : i < l.length) {out : List Ask} (ho : out.length < 8) :
    ref20_Media_p703b ((i : Int), all.1, all.2.1, all.2.2, l, out) = some (.inl (((i + 1 : Nat) : Int), all.1, all.2.1, all.2.2, l, addO out (outF all l[i]))) := by
  have e1 : IntKind.i64.wrap ((i : Int) + 1) = ((i + 1 : Nat) : Int) := by rw [wrap_i64 (by omega) (by omega)]; omega
  unfold ref20_Media_p703b ref20_Media_p2239
  simp only
  rw [bif_dec (show (i : Int) < (l.length : Int) by omega), bif_dec (show (out.length : Int) < 8 by omega)]
  simp only [Option.bind_some, Sum.elim_inl]
  rw [bif_dec (by omega), bif_dec (by omega), Int.toNat_natCast, List.getElem?_eq_getElem hi, e1, fits_ask (by omega)]
  simp only [Option.bind_some]
  generalize l[i] = m
  unfold outF famA addO
  have z1 : decide ((0 : Int) ≤ (i : Int)) = true := decide_eq_true (by omega)
  have z2 : decide ((i : Int) < (l.length : Int)) = true := decide_eq_true (by omega)
  simp only [z1, z2, cond_true]
  cases hz : (m.2.1 == 0) with
  | true =>
    simp only [cond_true, if_true]
    by_cases hp : 0 < m.1
    · have z3 : decide (m.1 > 0) = true := decide_eq_true hp
      by_cases ha : all.1 = 0
      · have z4 : (all.1 != 0) = false := by rw [ha]; rfl
        rw [if_neg (fun e => e.2 ha)]
        simp only [z3, z4, cond_true, cond_false]
      · have z4 : (all.1 != 0) = true := by rw [bne_iff_ne]; exact ha
        rw [if_pos ⟨hp, ha⟩]
        simp only [z3, z4, cond_true, if_pos ho]
    · have z3 : decide (m.1 > 0) = false := decide_eq_false hp
      rw [if_neg (fun e => hp e.1)]
      simp only [z3, cond_false]
  | false =>
    simp only [cond_false, Bool.false_eq_true, if_false]
    have ha : m.2.1 ≠ 0 := by simpa using hz
    have z4 : (m.2.1 != 0) = true := by rw [bne_iff_ne]; exact ha
    by_cases hp : 0 < m.1
    · have z3 : decide (m.1 > 0) = true := decide_eq_true hp
      rw [if_pos ⟨hp, ha⟩]
      simp only [z3, z4, cond_true, if_pos ho]
    · have z3 : decide (m.1 > 0) = false := decide_eq_false hp
      rw [if_neg (fun e => hp e.1)]
      simp only [z3, cond_false]
theorem ref_out {all : Ad} {l : List Med} (hl : l.length ≤ 4194305) : ∀ k i (out : List Ask), i + k = l.length → out.length ≤ 8 →
    ref20_Media_p703 ((i : Int), all.1, all.2.1, all.2.2, l, out) = some ((out ++ outs all (l.drop i)).take 8) := by
  intro k
  induction k with
  | zero =>
    intro i out h ho
    rw [List.drop_eq_nil_of_le (by omega)]
    unfold ref20_Media_p703
    refine iter_end ?_
    unfold ref20_Media_p703b ref20_Media_p2239
    simp only
    rw [bif_ndec (by omega)]
    simp [outs, List.take_of_length_le ho]
  | succ k ih =>
    intro i out h ho
    have hi : i < l.length := by omega
    by_cases h8 : out.length < 8
    · have st := ref_out_step (all := all) hl hi h8
      unfold ref20_Media_p703
      rw [iter_go st, List.drop_eq_getElem_cons hi, outs_cons, ← addO_take ho]
      exact ih (i + 1) _ (by omega) (addO_len ho _)
    · unfold ref20_Media_p703
      refine iter_end ?_
      unfold ref20_Media_p703b ref20_Media_p2239
      simp only
      rw [bif_dec (by omega), bif_ndec (by omega), List.take_append_of_le_length (by omega), List.take_of_length_le ho]
      rfl
/-! ### Both -/
def mediaM (body : By) : List Ask := (outs (endM body).1 (endM body).2).take 8
theorem foldM_ok : ∀ (L : List By) (st : Sta), okS st → okS (L.foldl stepM st) ∧ (L.foldl stepM st).2.length ≤ st.2.length + L.length
  | [], st, h => ⟨h, Nat.le_refl _⟩
  | s :: L, st, h => by
    obtain ⟨h1, h2⟩ := foldM_ok L (stepM st s) (stepM_ok h s)
    have := stepM_len st s
    refine ⟨h1, Nat.le_trans h2 ?_⟩
    simp only [List.length_cons]
    omega
theorem okS0 : okS (zA, []) := ⟨fun _ => rfl, fun m hm => by cases hm⟩
theorem endM_ok {s : By} (hs : s.length ≤ 4194304) : okS (endM s) ∧ (endM s).2.length ≤ 4194305 := by
  obtain ⟨h1, h2⟩ := foldM_ok (trA (spl 10 s)) (zA, []) okS0
  refine ⟨h1, Nat.le_trans h2 ?_⟩
  rw [trA_len, List.length_nil, Nat.zero_add]
  exact (spl_small hs 10).1
theorem sip_Media_eq {s : By} (hs : s.length ≤ 4194304) : sip_Media s = some (mediaM s) := by
  obtain ⟨g1, g2⟩ := spl_small hs 10
  obtain ⟨h1, h2⟩ := endM_ok hs
  unfold sip_Media
  rw [A.Split_eq hs]
  simp only [Option.bind_some]
  have := sip_lines g1 g2 (spl 10 s).length 0 (zA, []) (by omega) okS0 (by simp)
  rw [List.drop_zero] at this
  rw [show ((0 : Int)) = ((0 : Nat) : Int) from rfl]
  erw [this]
  simp only [Option.bind_some]
  have ho := sip_out (all := (endM s).1) h1.1 h1.2 h2 (endM s).2.length 0 [] (by omega) (by simp)
  rw [List.drop_zero, List.nil_append] at ho
  erw [ho]
  rfl
theorem ref20_Media_eq {s : By} (hs : s.length ≤ 4194304) : ref20_Media s = some (mediaM s) := by
  obtain ⟨g1, g2⟩ := spl_small hs 10
  obtain ⟨h1, h2⟩ := endM_ok hs
  unfold ref20_Media
  rw [split_same, A.ref_Split_eq hs]
  simp only [Option.bind_some]
  have := ref_lines20 g1 g2 (spl 10 s).length 0 (zA, []) (by omega) okS0 (by simp)
  rw [List.drop_zero] at this
  rw [show ((0 : Int)) = ((0 : Nat) : Int) from rfl]
  erw [this]
  simp only [Option.bind_some]
  have ho := ref_out (all := (endM s).1) h2 (endM s).2.length 0 [] (by omega) (by simp)
  rw [List.drop_zero, List.nil_append] at ho
  erw [ho]
  rfl
theorem mediaM_len (s : By) : (mediaM s).length ≤ 8 := by
  unfold mediaM
  rw [List.length_take]
  omega
def asksM (d : By) : List Ask := if (bodyM d).2 = true then mediaM (bodyM d).1 else []
theorem asksM_len (d : By) : (asksM d).length ≤ 8 := by
  unfold asksM
  split
  · exact mediaM_len _
  · simp
theorem fin2_len (k : Option By) (rest : By) : (fin2 k rest).1.length ≤ rest.length := by
  unfold fin2
  split
  · simp
  · split
    · exact Nat.le_refl _
    · simp
theorem fin1_len (l k : Option By) (rest : By) : (fin1 l k rest).1.length ≤ rest.length := by
  unfold fin1
  split
  · exact fin2_len _ _
  · split
    · simp
    · exact Nat.le_trans (fin2_len _ _) (by rw [List.length_take]; omega)
theorem hdrM_len : ∀ (n heads : Nat) (l k : Option By) (rest : By), (hdrM n heads l k rest).1.length ≤ rest.length
  | 0, _, _, _, _ => by simp [hdrM]
  | n + 1, heads, l, k, rest => by
    unfold hdrM
    split
    · simp
    · split
      · exact Nat.le_trans (fin1_len _ _ _) (by rw [List.length_drop]; omega)
      · split
        · simp
        · split
          · simp
          · exact Nat.le_trans (hdrM_len n _ _ _ _) (by rw [List.length_drop]; omega)
theorem bodyM_len (d : By) : (bodyM d).1.length ≤ d.length := by
  unfold bodyM
  split
  · simp
  · exact Nat.le_trans (hdrM_len _ _ _ _ _) (by rw [List.length_drop]; omega)
theorem sip_Asks_eq {d : By} (hd : d.length ≤ 4194304) : sip_Asks d = some (asksM d) := by
  unfold sip_Asks asksM
  rw [sip_Body_eq hd]
  simp only [Option.bind_some]
  cases hb : (bodyM d).2 with
  | false => rfl
  | true =>
    have := bodyM_len d
    simp only [Bool.not_true, cond_false, if_true]
    rw [sip_Media_eq (by omega)]
    rfl
theorem ref20_Asks_eq {d : By} (hd : d.length ≤ 4194304) : ref20_Asks d = some (asksM d) := by
  unfold ref20_Asks asksM
  rw [ref20_Body_eq hd]
  simp only [Option.bind_some]
  cases hb : (bodyM d).2 with
  | false => rfl
  | true =>
    have := bodyM_len d
    simp only [Bool.not_true, cond_false, if_true]
    rw [ref20_Media_eq (by omega)]
    rfl
/-! ### What is the same as itself -/
theorem same_loop20 {l : List Ask} (hl : l.length ≤ 4194304) : ∀ k i, i + k = l.length → ref18_Same_p43 (l, l, (i : Int)) = some (.inl ()) := by
  intro k
  induction k with
  | zero =>
    intro i h
    unfold ref18_Same_p43
    refine iter_end ?_
    unfold ref18_Same_p43b
    rw [bif_ndec (by simp only; omega)]
  | succ k ih =>
    intro i h
    have hi : i < l.length := by omega
    have e1 : IntKind.i64.wrap ((i : Int) + 1) = ((i + 1 : Nat) : Int) := by rw [wrap_i64 (by omega) (by omega)]; omega
    unfold ref18_Same_p43
    refine (iter_go (s' := (l, l, ((i + 1 : Nat) : Int))) ?_).trans (ih (i + 1) (by omega))
    unfold ref18_Same_p43b
    simp only
    rw [bif_dec (by omega), bif_dec (by omega), Int.toNat_natCast, List.getElem?_eq_getElem hi]
    simp only [Option.bind_some]
    rw [bif_dec (by omega), e1]
    simp
theorem same_self {l : List Ask} (hl : l.length ≤ 4194304) : ref18_Same l l = some true := by
  unfold ref18_Same
  rw [show ((l.length : Int) != (l.length : Int)) = false by simp, cond_false, show ((0 : Int)) = ((0 : Nat) : Int) from rfl, same_loop20 hl l.length 0 (by omega)]
  rfl
/-! ### The package's own example -/
def aliveD : By := [73, 78, 86, 73, 84, 69, 32, 115, 105, 112, 58, 97, 32, 83, 73, 80, 47, 50, 46, 48, 13, 10, 99, 58, 32, 97, 112, 112, 108, 105, 99, 97, 116, 105, 111, 110, 47, 115, 100, 112, 13, 10, 13, 10, 99, 61, 73, 78, 32, 73, 80, 52, 32, 49, 48, 46, 48, 46, 48, 46, 49, 13, 10, 109, 61, 97, 117, 100, 105, 111, 32, 52, 48, 48, 48, 32, 82, 84, 80, 47, 65, 86, 80, 32, 48, 13, 10]
theorem asks_alive : asksM aliveD = [(17, (4, 0, 167772161), 4000)] := by decide +kernel
theorem alive_ok : law20_alive = some true := by
  unfold law20_alive
  have h := sip_Asks_eq (d := aliveD) (by decide)
  rw [asks_alive] at h
  erw [h]
  simp only [Option.bind_some]
  rw [same_self (by decide)]
  rfl
end Go.Proofs.YtfaofikhabccoaaGreatDoor.Jv
