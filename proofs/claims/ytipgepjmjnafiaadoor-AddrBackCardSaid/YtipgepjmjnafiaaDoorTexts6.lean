/- The text of an address of family 6, by both; conditions: none. -/
import Derived.Test.YtipgepjmjnafiaaDoorTexts
namespace Go.Proofs.YtipgepjmjnafiaaDoor.Jv
open Go
theorem beq_nat (a b : Nat) : (((a : Int)) == (b : Int)) = decide (a = b) := by
  by_cases h : a = b
  · subst h; simp
  · rw [decide_eq_false h, beq_eq_false_iff_ne]; omega
set_option linter.unusedSectionVars false
set_option linter.unusedVariables false
set_option linter.unusedSimpArgs false
theorem getD_at {α : Type} (l : List α) (d : α) {i : Nat} (h : i < l.length) : l.getD i d = l[i] := by simp [List.getD_eq_getElem?_getD, List.getElem?_eq_getElem h]
/-- The j-th group. -/
def grp (b : List UInt8) (j : Nat) : Nat := 2 ^ 8 * (b.getD (2 * j) 0).toNat + (b.getD (2 * j + 1) 0).toNat
theorem grp_lt (b : List UInt8) (j : Nat) : grp b j < 65536 := by
  unfold grp
  have h1 := (b.getD (2 * j) 0).toNat_lt
  have h2 := (b.getD (2 * j + 1) 0).toNat_lt
  omega
theorem pair_u64 (x y : UInt8) : ior .u64 (ishl .u64 (IntKind.u64.wrap (x.toNat : Int)) 8) (IntKind.u64.wrap (y.toNat : Int)) = ((2 ^ 8 * x.toNat + y.toNat : Nat) : Int) := by
  have h1 := x.toNat_lt
  have h2 := y.toNat_lt
  rw [wrap_u64 (x := (x.toNat : Int)) (by omega) (by omega), wrap_u64 (x := (y.toNat : Int)) (by omega) (by omega), show (8 : Int) = ((8 : Nat) : Int) from rfl, ishl_u64 (by decide) (by omega), ior_u64 (by omega) (by omega)]
theorem pair_i64 (x y : UInt8) : ior .i64 (ishl .i64 (IntKind.i64.wrap (x.toNat : Int)) 8) (IntKind.i64.wrap (y.toNat : Int)) = ((2 ^ 8 * x.toNat + y.toNat : Nat) : Int) := by
  have h1 := x.toNat_lt
  have h2 := y.toNat_lt
  rw [u8_wrap, u8_wrap, show (8 : Int) = ((8 : Nat) : Int) from rfl, ishl_i64 (by decide) (by omega), ior_i64 (by omega) (by omega)]
theorem addr6_loop {b : List UInt8} (hb : b.length = 16) : ∀ k j (acc : List (List UInt8)), j + k = 8 → acc.length = j →
    addr_Text_p175 (b, ((2 * j : Nat) : Int), acc) = some (acc ++ (List.range' j k).map fun j => digs 16 4 (grp b j)) := by
  intro k
  induction k with
  | zero =>
    intro j acc hj ha
    refine (iter_end (o := acc) ?_).trans (by simp)
    unfold addr_Text_p175b
    rw [bif_ndec (by simp only; omega)]
  | succ k ih =>
    intro j acc hj ha
    have h1 : 2 * j < b.length := by omega
    have h2 : 2 * j + 1 < b.length := by omega
    rw [List.range'_succ, List.map_cons, List.append_cons]
    refine Eq.trans (iter_go ?_) (ih (j + 1) _ (by omega) (by simp [ha]))
    have e1 : IntKind.i64.wrap (((2 * j : Nat) : Int) + 1) = ((2 * j + 1 : Nat) : Int) := by rw [wrap_i64 (by omega) (by omega)]; omega
    have e2 : IntKind.i64.wrap (((2 * j : Nat) : Int) + 2) = ((2 * (j + 1) : Nat) : Int) := by rw [wrap_i64 (by omega) (by omega)]; omega
    have e3 : 2 ^ 8 * (b[2 * j]).toNat + (b[2 * j + 1]).toNat = grp b j := by simp only [grp, getD_at _ _ h1, getD_at _ _ h2]
    unfold addr_Text_p175b
    simp only
    rw [bif_dec (by omega), bif_dec (by omega), Int.toNat_natCast, List.getElem?_eq_getElem h1, Option.bind_some, e1, bif_dec (by omega), Int.toNat_natCast, List.getElem?_eq_getElem h2, Option.bind_some, pair_u64, e3, fmt16_eq (grp_lt b j), Option.bind_some, fits16 (by omega) (by decide), e2]
    rfl
theorem ref6_loop {b : List UInt8} (hb : b.length = 16) (s : List UInt8) : ∀ k j (acc : List Int), j + k = 8 → acc.length = j →
    ref02_Text_p351 (s, ((2 * j : Nat) : Int), b, acc) = some (s, acc ++ (List.range' j k).map fun j => ((grp b j : Nat) : Int)) := by
  intro k
  induction k with
  | zero =>
    intro j acc hj ha
    refine (iter_end (o := (s, acc)) ?_).trans (by simp)
    have e1 : IntKind.i64.wrap (((2 * j : Nat) : Int) + 1) = ((2 * j + 1 : Nat) : Int) := by rw [wrap_i64 (by omega) (by omega)]; omega
    unfold ref02_Text_p351b
    simp only [e1]
    rw [bif_ndec (by omega)]
  | succ k ih =>
    intro j acc hj ha
    have h1 : 2 * j < b.length := by omega
    have h2 : 2 * j + 1 < b.length := by omega
    rw [List.range'_succ, List.map_cons, List.append_cons]
    refine Eq.trans (iter_go ?_) (ih (j + 1) _ (by omega) (by simp [ha]))
    have e1 : IntKind.i64.wrap (((2 * j : Nat) : Int) + 1) = ((2 * j + 1 : Nat) : Int) := by rw [wrap_i64 (by omega) (by omega)]; omega
    have e2 : IntKind.i64.wrap (((2 * j : Nat) : Int) + 2) = ((2 * (j + 1) : Nat) : Int) := by rw [wrap_i64 (by omega) (by omega)]; omega
    have e3 : 2 ^ 8 * (b[2 * j]).toNat + (b[2 * j + 1]).toNat = grp b j := by simp only [grp, getD_at _ _ h1, getD_at _ _ h2]
    unfold ref02_Text_p351b
    simp only [e1]
    rw [bif_dec (by omega), bif_dec (by omega), bif_dec (by omega), Int.toNat_natCast, List.getElem?_eq_getElem h1, Option.bind_some, bif_dec (by omega), bif_dec (by omega), Int.toNat_natCast, List.getElem?_eq_getElem h2, Option.bind_some, pair_i64, e3, fits16 (by omega) (by decide), e2]
    rfl
/-! ### The document's writing -/
section
variable {gs : List Nat} (h8 : gs.length = 8) (hlt : ∀ n ∈ gs, n < 65536)
def D (gs : List Nat) : List (List UInt8) := gs.map (digs 16 4)
def Z (gs : List Nat) : List Int := gs.map fun (n : Nat) => (n : Int)
theorem sep_yes {s : List UInt8} {f : Int} {m i : Nat} {g : List Int} (hf : -1 ≤ f ∧ f ≤ 8) (hm : m ≤ 8) (hs : s.length ≤ 1000) (h0 : 0 < i) (h : f < 0 ∨ (i : Int) ≠ f + m) :
    ref02_Text_p168703 (s, f, (m : Int), (i : Int), g) = some (s ++ [58], f, (m : Int), (i : Int), g) := by
  unfold ref02_Text_p168703
  have e1 : decide (s.length + 1 < 2 ^ 62) = true := decide_eq_true (Nat.lt_of_le_of_lt (m := 1001) (by omega) (by decide))
  have e2 : IntKind.i64.wrap (f + (m : Int)) = f + (m : Int) := wrap_i64 (by omega) (by omega)
  simp only [e1, e2, cond_true]
  rw [bif_dec (by omega)]
  by_cases hn : f < 0
  · rw [bif_dec hn]
  · rw [bif_ndec hn, show ((i : Int) != f + (m : Int)) = true from bne_iff_ne.2 (by omega)]
    rfl
theorem sep_no {s : List UInt8} {f : Int} {m i : Nat} {g : List Int} (hf : -1 ≤ f ∧ f ≤ 8) (hm : m ≤ 8) (h : i = 0 ∨ (0 ≤ f ∧ (i : Int) = f + m)) :
    ref02_Text_p168703 (s, f, (m : Int), (i : Int), g) = some (s, f, (m : Int), (i : Int), g) := by
  unfold ref02_Text_p168703
  have e2 : IntKind.i64.wrap (f + (m : Int)) = f + (m : Int) := wrap_i64 (by omega) (by omega)
  simp only [e2]
  by_cases h0 : i = 0
  · rw [bif_ndec (by omega)]
  · rw [bif_dec (by omega), bif_ndec (by omega), show ((i : Int) != f + (m : Int)) = false from bne_eq_false_iff_eq.2 (by omega)]
    rfl
include h8 hlt
theorem put_step {s s' : List UInt8} {f : Int} {m i : Nat} (hi : i < 8) (hne : (i : Int) ≠ f) (hs : s'.length ≤ 1000) (h : ref02_Text_p168703 (s, f, (m : Int), (i : Int), Z gs) = some (s', f, (m : Int), (i : Int), Z gs)) :
    ref02_Text_p2815b (s, f, (m : Int), (i : Int), Z gs) = some (.inl (s' ++ (D gs).getD i [], f, (m : Int), ((i + 1 : Nat) : Int), Z gs)) := by
  unfold ref02_Text_p2815b
  have hl : i < gs.length := by omega
  have hZ : (Z gs).length = 8 := by simp [Z, h8]
  have e1 : ((i : Int) == f) = false := beq_eq_false_iff_ne.2 hne
  have e2 : IntKind.i64.wrap ((i : Int) + 1) = ((i + 1 : Nat) : Int) := by rw [wrap_i64 (by omega) (by omega)]; omega
  have e3 : (Z gs)[i]? = some ((gs[i] : Nat) : Int) := by simp [Z, List.getElem?_eq_getElem hl]
  have e4 : (D gs).getD i [] = digs 16 4 gs[i] := by simp [D, List.getD_eq_getElem?_getD, List.getElem?_eq_getElem hl]
  have e5 := digs_len 16 4 gs[i]
  have e6 : decide (s'.length + (digs 16 4 gs[i]).length < 2 ^ 62) = true := decide_eq_true (Nat.lt_of_le_of_lt (m := 1004) (by omega) (by decide))
  simp only [e1, cond_false, h, Option.bind_some, hZ]
  rw [bif_dec (by omega), bif_dec (by omega), bif_dec (by omega), Int.toNat_natCast, e3, Option.bind_some, digits16 (hlt _ (List.getElem_mem hl)), Option.bind_some, e6, e2, e4]
  rfl
theorem D_drop {i : Nat} (hi : i < 8) : (D gs).drop i = (D gs).getD i [] :: (D gs).drop (i + 1) := by
  have hl : i < (D gs).length := by simp [D, h8, hi]
  rw [List.drop_eq_getElem_cons hl, getD_at _ _ hl]
theorem D_len (i : Nat) : ((D gs).getD i []).length ≤ 4 := by
  by_cases hi : i < gs.length
  · have e4 : (D gs).getD i [] = digs 16 4 gs[i] := by simp [D, List.getD_eq_getElem?_getD, List.getElem?_eq_getElem hi]
    rw [e4]; exact digs_len 16 4 _
  · have : (D gs).getD i [] = [] := by
      rw [List.getD_eq_getElem?_getD, List.getElem?_eq_none (by simp [D]; omega)]; rfl
    rw [this]; simp
theorem done_step {s : List UInt8} {f : Int} {m i : Nat} (hi : 8 ≤ i) : ref02_Text_p2815b (s, f, (m : Int), (i : Int), Z gs) = some (.inr s) := by
  unfold ref02_Text_p2815b
  have hZ : (Z gs).length = 8 := by simp [Z, h8]
  simp only [hZ]
  rw [bif_ndec (by omega)]
theorem tail_text {f : Int} {m : Nat} (hf : -1 ≤ f ∧ f ≤ 8) (hm : m ≤ 8) : ∀ k i (s : List UInt8), i + k = 8 → 0 < i → s.length ≤ 100 + 6 * i → f < (i : Int) → (f < 0 ∨ f + m < (i : Int)) →
    ref02_Text_p2815 (s, f, (m : Int), (i : Int), Z gs) = some (s ++ tj 58 ((D gs).drop i)) := by
  intro k
  induction k with
  | zero =>
    intro i s hi _ _ _ _
    refine (iter_end (done_step h8 hlt (by omega))).trans ?_
    rw [List.drop_eq_nil_of_le (by simp [D, h8]; omega)]
    simp [tj]
  | succ k ih =>
    intro i s hi h0 hs h1 h2
    have hd := D_len h8 hlt i
    rw [D_drop h8 hlt (by omega), tj]
    have := ih (i + 1) (s ++ [58] ++ (D gs).getD i []) (by omega) (by omega) (by simp only [List.length_append, List.length_cons, List.length_nil]; omega) (by omega) (by omega)
    rw [show s ++ (58 :: (D gs).getD i [] ++ tj 58 ((D gs).drop (i + 1))) = s ++ [58] ++ (D gs).getD i [] ++ tj 58 ((D gs).drop (i + 1)) from by simp]
    exact Eq.trans (iter_go (put_step h8 hlt (by omega) (by omega) (by simp only [List.length_append, List.length_cons, List.length_nil]; omega) (sep_yes hf hm (by omega) h0 (by omega)))) this
/-- Without any row of nothings. -/
theorem plain_text {m : Nat} (hm : m ≤ 8) : ref02_Text_p2815 ([], -1, (m : Int), 0, Z gs) = some (joinB [58] (D gs)) := by
  have hd := D_len h8 hlt 0
  have h1 := tail_text h8 hlt (f := -1) (m := m) (by omega) hm 7 1 ([] ++ (D gs).getD 0 []) rfl (by decide) (by simp only [List.nil_append]; omega) (by omega) (.inl (by decide))
  have h0 := D_drop h8 hlt (i := 0) (by decide)
  rw [List.drop_zero] at h0
  rw [h0, joinB_cons]
  exact Eq.trans (iter_go (put_step (f := -1) (i := 0) h8 hlt (by decide) (by decide) (by decide) (sep_no (by omega) hm (.inl rfl)))) h1
/-- Behind the row. -/
theorem behind_text {a m : Nat} (ha : a + m ≤ 8) (hm : 2 ≤ m) {s : List UInt8} (hs : s.length ≤ 100 + 6 * (a + m)) :
    ref02_Text_p2815 (s, (a : Int), (m : Int), ((a + m : Nat) : Int), Z gs) = some (s ++ joinB [58] ((D gs).drop (a + m))) := by
  by_cases h : a + m = 8
  · refine (iter_end (done_step h8 hlt (by omega))).trans ?_
    rw [List.drop_eq_nil_of_le (by simp [D, h8]; omega)]
    simp [joinB]
  · have hd := D_len h8 hlt (a + m)
    have h1 := tail_text h8 hlt (f := (a : Int)) (m := m) (by omega) (by omega) (8 - (a + m + 1)) (a + m + 1) (s ++ (D gs).getD (a + m) []) (by omega) (by omega) (by simp only [List.length_append]; omega) (by omega) (.inr (by omega))
    rw [D_drop h8 hlt (by omega), joinB_cons, ← List.append_assoc, ← h1]
    exact iter_go (put_step h8 hlt (by omega) (by omega) (by omega) (sep_no (by omega) (by omega) (.inr ⟨by omega, by omega⟩)))
theorem row_step {a m : Nat} (ha : a + m ≤ 8) (hm : 2 ≤ m) {s : List UInt8} (hs : s.length ≤ 100 + 6 * a) :
    ref02_Text_p2815b (s, (a : Int), (m : Int), (a : Int), Z gs) = some (.inl (s ++ [58, 58], (a : Int), (m : Int), ((a + m : Nat) : Int), Z gs)) := by
  unfold ref02_Text_p2815b
  have hZ : (Z gs).length = 8 := by simp [Z, h8]
  have e1 : IntKind.i64.wrap ((m : Int) - 1) = ((m - 1 : Nat) : Int) := by rw [wrap_i64 (by omega) (by omega)]; omega
  have e2 : IntKind.i64.wrap ((a : Int) + ((m - 1 : Nat) : Int)) = ((a + m - 1 : Nat) : Int) := by rw [wrap_i64 (by omega) (by omega)]; omega
  have e3 : IntKind.i64.wrap (((a + m - 1 : Nat) : Int) + 1) = ((a + m : Nat) : Int) := by rw [wrap_i64 (by omega) (by omega)]; omega
  have e4 : decide (s.length + 2 < 2 ^ 62) = true := decide_eq_true (Nat.lt_of_le_of_lt (m := 1000) (by omega) (by decide))
  simp only [hZ, e1, e2, e3, e4, beq_self_eq_true, cond_true]
  rw [bif_dec (by omega)]
theorem ahead_text {a m : Nat} (ha : a + m ≤ 8) (hm : 2 ≤ m) : ∀ k i (s : List UInt8), i + k = a → s.length ≤ 100 + 6 * i →
    ref02_Text_p2815 (s, (a : Int), (m : Int), (i : Int), Z gs) = some (s ++ (if i = 0 then joinB [58] ((D gs).take a) else tj 58 (((D gs).take a).drop i)) ++ [58, 58] ++ joinB [58] ((D gs).drop (a + m))) := by
  have hDl : (D gs).length = 8 := by simp [D, h8]
  intro k
  induction k with
  | zero =>
    intro i s hi hs
    have hia : i = a := by omega
    subst hia
    have h1 := behind_text h8 hlt ha hm (s := s ++ [58, 58]) (by simp only [List.length_append, List.length_cons, List.length_nil]; omega)
    have e : (if i = 0 then joinB [58] ((D gs).take i) else tj 58 (((D gs).take i).drop i)) = [] := by
      split
      · rename_i h; subst h; rfl
      · rw [List.drop_eq_nil_of_le (by simp; omega)]; rfl
    rw [e, List.append_nil]
    exact Eq.trans (iter_go (row_step h8 hlt ha hm hs)) h1
  | succ k ih =>
    intro i s hi hs
    have hd := D_len h8 hlt i
    have hdt : ((D gs).take a).drop i = (D gs).getD i [] :: ((D gs).take a).drop (i + 1) := by
      have hl : i < ((D gs).take a).length := by simp [hDl]; omega
      rw [List.drop_eq_getElem_cons hl, List.getElem_take, getD_at _ _ (by omega)]
    by_cases h0 : i = 0
    · subst h0
      have := ih 1 (s ++ (D gs).getD 0 []) (by omega) (by simp only [List.length_append]; omega)
      rw [if_neg (by decide)] at this
      rw [List.drop_zero] at hdt
      rw [if_pos rfl]
      conv => rhs; rw [hdt, joinB_cons]
      rw [← List.append_assoc s]
      exact Eq.trans (iter_go (put_step h8 hlt (i := 0) (by decide) (by omega) (by omega) (sep_no (by omega) (by omega) (.inl rfl)))) this
    · have := ih (i + 1) (s ++ [58] ++ (D gs).getD i []) (by omega) (by simp only [List.length_append, List.length_cons, List.length_nil]; omega)
      rw [if_neg (by omega)] at this
      rw [if_neg h0, hdt, tj]
      rw [show s ++ (58 :: (D gs).getD i [] ++ tj 58 (((D gs).take a).drop (i + 1))) = s ++ [58] ++ (D gs).getD i [] ++ tj 58 (((D gs).take a).drop (i + 1)) from by simp]
      exact Eq.trans (iter_go (put_step h8 hlt (by omega) (by omega) (by simp only [List.length_append, List.length_cons, List.length_nil]; omega) (sep_yes (by omega) (by omega) (by omega) (by omega) (.inr (by omega))))) this
end
def P0 (gs : List Nat) : List Bool := gs.map fun n => decide (n = 0)
theorem P_D {gs : List Nat} (hlt : ∀ n ∈ gs, n < 65536) : (D gs).map (· == ([48] : List UInt8)) = P0 gs := by
  rw [D, List.map_map, P0]
  exact List.map_congr_left fun n hn => digs_zero (hlt n hn)
theorem P_Z (gs : List Nat) : (Z gs).map (· == (0 : Int)) = P0 gs := by
  rw [Z, List.map_map, P0]
  exact List.map_congr_left fun n _ => beq_nat n 0
theorem agree_P {gs : List Nat} (h8 : gs.length = 8) : agreeZ (bestZ (P0 gs) 8 0 0 0) (bestZ (P0 gs) 8 0 (-1) 1) = true := by
  match gs, h8 with
  | [a, b, c, d, e, f, g, h], _ => exact best_agree _ _ _ _ _ _ _ _
/-- The text of eight groups. -/
def text6 (gs : List Nat) : List UInt8 :=
  if (bestZ (P0 gs) 8 0 0 0).2 < 2 then joinB [58] (D gs)
  else joinB [58] ((D gs).take (bestZ (P0 gs) 8 0 0 0).1.toNat) ++ [58, 58] ++ joinB [58] ((D gs).drop ((bestZ (P0 gs) 8 0 0 0).1.toNat + (bestZ (P0 gs) 8 0 0 0).2))
theorem D_all (gs : List Nat) : ∀ x ∈ D gs, x.length ≤ 4 := fun x hx => by
  obtain ⟨y, _, rfl⟩ := List.mem_map.1 hx
  exact digs_len 16 4 y
theorem text6_len {gs : List Nat} (h8 : gs.length = 8) : (text6 gs).length ≤ 82 := by
  have hD : (D gs).length = 8 := by simp [D, h8]
  have h1 : ∀ l : List (List UInt8), (∀ x ∈ l, x ∈ D gs) → l.length ≤ 8 → (joinB [58] l).length ≤ 40 := fun l hl hn => by
    have := joinB_len 58 l 4 fun x hx => D_all gs x (hl x hx)
    have h2 : l.length * (4 + 1) ≤ 8 * 5 := Nat.mul_le_mul_right 5 hn
    omega
  unfold text6
  split
  · exact Nat.le_trans (h1 _ (fun x hx => hx) (by omega)) (by decide)
  · have g1 := h1 _ (fun x hx => List.mem_of_mem_take hx) (show ((D gs).take (bestZ (P0 gs) 8 0 0 0).1.toNat).length ≤ 8 by simp only [List.length_take]; omega)
    have g2 := h1 _ (fun x hx => List.mem_of_mem_drop hx) (show ((D gs).drop ((bestZ (P0 gs) 8 0 0 0).1.toNat + (bestZ (P0 gs) 8 0 0 0).2)).length ≤ 8 by simp only [List.length_drop]; omega)
    simp only [List.length_append, List.length_cons, List.length_nil]
    omega
def gsOf (b : List UInt8) : List Nat := (List.range' 0 8).map (grp b)
theorem gs_len (b : List UInt8) : (gsOf b).length = 8 := by simp [gsOf]
theorem gs_lt (b : List UInt8) : ∀ n ∈ gsOf b, n < 65536 := fun n hn => by
  obtain ⟨j, _, rfl⟩ := List.mem_map.1 hn
  exact grp_lt b j
theorem join_D {gs : List Nat} {l : List (List UInt8)} (hl : ∀ x ∈ l, x ∈ D gs) (hn : l.length ≤ 8) : strings_Join l [58] = some (joinB [58] l) :=
  join_ok hn fun x hx => Nat.le_trans (D_all gs x (hl x hx)) (by decide)
theorem addr_text6 {h l : Nat} (hh : h < 18446744073709551616) (hl : l < 18446744073709551616) : addr_Text (6, (h : Int), (l : Int)) = some (text6 (gsOf (octs 6 h l))) := by
  have ho : okA 6 h l := .inr ⟨rfl, hh, hl⟩
  have hb : (octs 6 h l).length = 16 := by simp [octs, octN]
  generalize hB : octs 6 h l = b at hb
  have hD : (D (gsOf b)).length = 8 := by simp [D, gs_len]
  have hag := agree_P (gs_len b)
  have hbest := addr_best (g := D (gsOf b)) (by omega) 8 0 0 0 (by omega)
  rw [P_D (gs_lt b)] at hbest
  have hloop := addr6_loop hb 8 0 [] rfl rfl
  rw [List.nil_append, show ((List.range' 0 8).map fun j => digs 16 4 (grp b j)) = D (gsOf b) from by rw [D, gsOf, List.map_map]; rfl] at hloop
  have hz : addr_zeros (D (gsOf b)) = some ((bestZ (P0 (gsOf b)) 8 0 0 0).1, (((bestZ (P0 (gsOf b)) 8 0 0 0).2 : Nat) : Int)) := by
    unfold addr_zeros
    rw [show (0 : Int) = ((0 : Nat) : Int) from rfl] at hbest ⊢
    rw [hbest]
    rfl
  unfold addr_Text
  simp only [addr_Bytes_eq ho, hB, Option.bind_some, hb]
  rw [show (((16 : Nat) : Int) == 4) = false from rfl, cond_false]
  rw [show addr_Text_p175 (b, 0, []) = some (D (gsOf b)) from hloop]
  simp only [Option.bind_some, hz]
  unfold text6
  generalize hA : bestZ (P0 (gsOf b)) 8 0 0 0 = A at hag
  obtain ⟨a, m⟩ := A
  simp only
  by_cases hm : m < 2
  · rw [bif_dec (by omega), join_D (fun x hx => hx) (by omega), if_pos hm]
    rfl
  · unfold agreeZ at hag
    rw [if_neg hm] at hag
    simp only [Bool.and_eq_true, decide_eq_true_eq] at hag
    obtain ⟨⟨⟨_, ha0⟩, ha8⟩, _⟩ := hag
    obtain ⟨n, rfl⟩ : ∃ n : Nat, a = (n : Int) := ⟨a.toNat, by omega⟩
    rw [Int.toNat_natCast] at ha8 ⊢
    have e1 : IntKind.i64.wrap ((n : Int) + (m : Int)) = ((n + m : Nat) : Int) := by rw [wrap_i64 (by omega) (by omega)]; omega
    have j1 := join_D (gs := gsOf b) (l := (D (gsOf b)).take n) (fun x hx => List.mem_of_mem_take hx) (by simp only [List.length_take]; omega)
    have j2 := join_D (gs := gsOf b) (l := (D (gsOf b)).drop (n + m)) (fun x hx => List.mem_of_mem_drop hx) (by simp only [List.length_drop]; omega)
    have l1 : (joinB [58] ((D (gsOf b)).take n)).length ≤ 8 * 5 := Nat.le_trans (joinB_len 58 _ 4 fun x hx => D_all _ x (List.mem_of_mem_take hx)) (Nat.mul_le_mul_right 5 (by simp only [List.length_take]; omega))
    have l2 : (joinB [58] ((D (gsOf b)).drop (n + m))).length ≤ 8 * 5 := Nat.le_trans (joinB_len 58 _ 4 fun x hx => D_all _ x (List.mem_of_mem_drop hx)) (Nat.mul_le_mul_right 5 (by simp only [List.length_drop]; omega))
    have e2 : decide ((joinB [58] ((D (gsOf b)).take n)).length + 2 < 2 ^ 62) = true := decide_eq_true (Nat.lt_of_le_of_lt (m := 42) (by omega) (by decide))
    have e3 : decide ((joinB [58] ((D (gsOf b)).take n) ++ [58, 58]).length + (joinB [58] ((D (gsOf b)).drop (n + m))).length < 2 ^ 62) = true :=
      decide_eq_true (Nat.lt_of_le_of_lt (m := 82) (by simp only [List.length_append, List.length_cons, List.length_nil]; omega) (by decide))
    have e4 : ((D (gsOf b)).drop (n + m)).take ((D (gsOf b)).length - (n + m)) = (D (gsOf b)).drop (n + m) := List.take_of_length_le (by simp)
    rw [bif_ndec (by omega), bif_dec (by omega), bif_dec (by omega), Nat.sub_zero, j1, Option.bind_some, e2, cond_true, e1, bif_dec (by omega), bif_dec (by omega), Int.toNat_natCast, e4, j2, Option.bind_some, e3, cond_true, if_neg hm]
theorem ref_text6 {h l : Nat} (hh : h < 18446744073709551616) (hl : l < 18446744073709551616) : ref02_Text (6, (h : Int), (l : Int)) = some (text6 (gsOf (octs 6 h l))) := by
  have ho : okA 6 h l := .inr ⟨rfl, hh, hl⟩
  have hb : (octs 6 h l).length = 16 := by simp [octs, octN]
  generalize hB : octs 6 h l = b at hb
  have hZ : (Z (gsOf b)).length = 8 := by simp [Z, gs_len]
  have hag := agree_P (gs_len b)
  have hbest := ref_best (s := []) (g := Z (gsOf b)) (by omega) 8 0 (-1) 1 (by omega)
  rw [P_Z] at hbest
  have hloop := ref6_loop hb [] 8 0 [] rfl rfl
  rw [List.nil_append, show ((List.range' 0 8).map fun j => ((grp b j : Nat) : Int)) = Z (gsOf b) from by rw [Z, gsOf, List.map_map]; rfl] at hloop
  unfold ref02_Text
  simp only [ref02_Bytes_eq ho, hB, Option.bind_some, hb]
  rw [show (((16 : Nat) : Int) == 4) = false from rfl, cond_false]
  rw [show ref02_Text_p351 ([], 0, b, []) = some ([], Z (gsOf b)) from hloop]
  simp only [Option.bind_some]
  rw [show ref02_Text_p1407 ([], -1, 1, 0, Z (gsOf b)) = _ from hbest]
  simp only [Option.bind_some]
  unfold text6
  unfold agreeZ at hag
  split at hag
  · rename_i hm
    rw [eq_of_beq hag, if_pos hm]
    simp only
    rw [plain_text (gs_len b) (gs_lt b) (by decide)]
    rfl
  · rename_i hm
    simp only [Bool.and_eq_true, decide_eq_true_eq] at hag
    obtain ⟨⟨⟨hR, ha0⟩, ha8⟩, h2⟩ := hag
    rw [eq_of_beq hR, if_neg hm]
    generalize bestZ (P0 (gsOf b)) 8 0 0 0 = A at ha0 ha8 h2 hm
    obtain ⟨a, m⟩ := A
    simp only at ha0 ha8 h2 ⊢
    obtain ⟨n, rfl⟩ : ∃ n : Nat, a = (n : Int) := ⟨a.toNat, by omega⟩
    rw [Int.toNat_natCast] at ha8 ⊢
    have := ahead_text (gs_len b) (gs_lt b) (a := n) (m := m) ha8 h2 n 0 [] (by omega) (by decide)
    rw [if_pos rfl, List.nil_append] at this
    rw [show ref02_Text_p2815 ([], (n : Int), (m : Int), 0, Z (gsOf b)) = _ from this]
    rfl
end Go.Proofs.YtipgepjmjnafiaaDoor.Jv
