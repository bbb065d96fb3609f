/- The text of an address, by both; conditions: none. -/
import Derived.Test.YtipgepjmjnafiaaDoorRuns
namespace Go.Proofs.YtipgepjmjnafiaaDoor.Jv
open Go
set_option linter.unusedSectionVars false
set_option linter.unusedVariables false
set_option linter.unusedSimpArgs false
/-! ### Strings one behind the other -/
/-- Each with a sign ahead. -/
def tj (c : UInt8) : List (List UInt8) → List UInt8
  | [] => []
  | x :: l => c :: x ++ tj c l
theorem joinB_cons (c : UInt8) (x : List UInt8) (l : List (List UInt8)) : joinB [c] (x :: l) = x ++ tj c l := by
  induction l generalizing x with
  | nil => simp [joinB, tj]
  | cons y l ih => rw [joinB, ih, tj]; simp
theorem tj_append (c : UInt8) (l r : List (List UInt8)) : tj c (l ++ r) = tj c l ++ tj c r := by
  induction l with
  | nil => rfl
  | cons x l ih => simp [tj, ih]
theorem tj_len (c : UInt8) : ∀ (l : List (List UInt8)) (n : Nat), (∀ x ∈ l, x.length ≤ n) → (tj c l).length ≤ l.length * (n + 1)
  | [], _, _ => by simp [tj]
  | x :: l, n, h => by
    have h1 := h x (by simp)
    have h2 := tj_len c l n fun y hy => h y (by simp [hy])
    simp only [tj, List.length_append, List.length_cons, Nat.add_mul, Nat.one_mul]
    omega
theorem joinB_len (c : UInt8) (l : List (List UInt8)) (n : Nat) (h : ∀ x ∈ l, x.length ≤ n) : (joinB [c] l).length ≤ l.length * (n + 1) := by
  cases l with
  | nil => simp [joinB]
  | cons x l =>
    have h1 := h x (by simp)
    have h2 := tj_len c l n fun y hy => h y (by simp [hy])
    rw [joinB_cons]
    simp only [List.length_append, List.length_cons, Nat.add_mul, Nat.one_mul]
    omega
theorem join_ok {l : List (List UInt8)} {c : UInt8} (hl : l.length ≤ 8) (h : ∀ x ∈ l, x.length ≤ 20) : strings_Join l [c] = some (joinB [c] l) := by
  unfold strings_Join
  have h1 := joinB_len c l 20 h
  have h2 : (joinB [c] l).length ≤ 168 := Nat.le_trans h1 (Nat.mul_le_mul_right 21 hl)
  rw [decide_eq_true (show l.length ≤ 140737488355328 by omega), decide_eq_true (show (joinB [c] l).length ≤ 140737488355328 by omega)]
  rfl
/-! ### Family 4 -/
theorem u8_wrap (e : UInt8) : IntKind.i64.wrap (e.toNat : Int) = (e.toNat : Int) := by
  have := e.toNat_lt
  exact wrap_nat (by omega)
theorem d10_len (n : Nat) : (digs 10 20 n).length ≤ 20 := digs_len 10 20 n
def d4 (b : List UInt8) : List (List UInt8) := b.map fun x => digs 10 20 x.toNat
theorem addr4_loop {b : List UInt8} (hb : b.length = 4) : ∀ k i (acc : List (List UInt8)), i + k = 4 → acc.length = i → addr_Text_p663 (b, 4, (i : Int), acc) = some (acc ++ d4 (b.drop i)) := by
  intro k
  induction k with
  | zero =>
    intro i acc hi ha
    refine (iter_end (o := acc) ?_).trans ?_
    · unfold addr_Text_p663b
      rw [bif_ndec (by simp only; omega)]
    · rw [List.drop_eq_nil_of_le (by omega)]; simp [d4]
  | succ k ih =>
    intro i acc hi ha
    have hl : i < b.length := by omega
    rw [List.drop_eq_getElem_cons hl, d4, List.map_cons, List.append_cons]
    refine Eq.trans (iter_go ?_) (ih (i + 1) _ (by omega) (by simp [ha]))
    unfold addr_Text_p663b
    have e2 : IntKind.i64.wrap ((i : Int) + 1) = ((i + 1 : Nat) : Int) := by rw [wrap_i64 (by omega) (by omega)]; omega
    have e3 := (b[i]).toNat_lt
    simp only
    rw [bif_dec (by omega), bif_dec (by omega), Int.toNat_natCast, List.getElem?_eq_getElem hl, Option.bind_some, u8_wrap, itoa_digs (by omega), Option.bind_some, fits16 (by omega) (by decide), e2]
    rfl
theorem ref4_loop {b : List UInt8} (hb : b.length = 4) : ∀ k i (s : List UInt8), i + k = 4 → 0 < i → s.length ≤ 21 * i → ref02_Text_p663 (s, (i : Int), b) = some (s ++ tj 46 (d4 (b.drop i))) := by
  intro k
  induction k with
  | zero =>
    intro i s hi _ _
    refine (iter_end (o := s) ?_).trans ?_
    · unfold ref02_Text_p663b
      rw [bif_ndec (by simp only; omega)]
    · rw [List.drop_eq_nil_of_le (by omega)]; simp [d4, tj]
  | succ k ih =>
    intro i s hi h0 hs
    have hl : i < b.length := by omega
    have e3 := (b[i]).toNat_lt
    have hd := d10_len (b[i]).toNat
    rw [List.drop_eq_getElem_cons hl, d4, List.map_cons, tj]
    have := ih (i + 1) (s ++ [46] ++ digs 10 20 (b[i]).toNat) (by omega) (by omega) (by simp only [List.length_append, List.length_cons, List.length_nil]; omega)
    rw [show s ++ (46 :: digs 10 20 (b[i]).toNat ++ tj 46 (List.map (fun x => digs 10 20 x.toNat) (b.drop (i + 1)))) = s ++ [46] ++ digs 10 20 (b[i]).toNat ++ tj 46 (d4 (b.drop (i + 1))) from by simp [d4]]
    refine Eq.trans (iter_go ?_) this
    unfold ref02_Text_p663b
    have e2 : IntKind.i64.wrap ((i : Int) + 1) = ((i + 1 : Nat) : Int) := by rw [wrap_i64 (by omega) (by omega)]; omega
    have e4 : decide (s.length + 1 < 2 ^ 62) = true := decide_eq_true (Nat.lt_of_le_of_lt (m := 100) (by omega) (by decide))
    have e5 : decide ((s ++ [46]).length + (digs 10 20 (b[i]).toNat).length < 2 ^ 62) = true := decide_eq_true (Nat.lt_of_le_of_lt (m := 200) (by simp only [List.length_append, List.length_cons, List.length_nil]; omega) (by decide))
    simp only
    rw [bif_dec (by omega), bif_dec (by omega), e4, cond_true, bif_dec (by omega), bif_dec (by omega), Int.toNat_natCast, List.getElem?_eq_getElem hl, Option.bind_some, u8_wrap, digits10 (by omega), Option.bind_some, e5, e2]
    rfl
theorem ref4 {b : List UInt8} (hb : b.length = 4) : ref02_Text_p663 ([], 0, b) = some (joinB [46] (d4 b)) := by
  have hl : 0 < b.length := by omega
  have e3 := (b[0]).toNat_lt
  have hd := d10_len (b[0]).toNat
  have := ref4_loop hb 3 1 (digs 10 20 (b[0]).toNat) rfl (by decide) (by omega)
  have hb0 : b = b[0] :: b.drop 1 := by
    have := List.drop_eq_getElem_cons hl
    rwa [List.drop_zero] at this
  have e1 : joinB [46] (d4 b) = digs 10 20 (b[0]).toNat ++ tj 46 (d4 (b.drop 1)) := by
    conv => lhs; rw [hb0]
    rw [d4, List.map_cons, joinB_cons]
    rfl
  rw [e1, ← this]
  refine iter_go ?_
  unfold ref02_Text_p663b
  have e5 : decide (([] : List UInt8).length + (digs 10 20 (b[0]).toNat).length < 2 ^ 62) = true := decide_eq_true (Nat.lt_of_le_of_lt (m := 100) (by simp only [List.length_nil]; omega) (by decide))
  have e6 : IntKind.i64.wrap (0 + 1) = ((1 : Nat) : Int) := by rw [wrap_i64 (by decide) (by decide)]; rfl
  simp only
  rw [bif_dec (by decide), bif_ndec (by decide), bif_dec (by decide), bif_dec (by omega), show ((0 : Int).toNat) = 0 from rfl, List.getElem?_eq_getElem hl, Option.bind_some, u8_wrap, digits10 (by omega), Option.bind_some, e5, e6]
  rfl
theorem text4 {l : Nat} (hl : l < 4294967296) : addr_Text (4, ((0 : Nat) : Int), (l : Int)) = some (joinB [46] (d4 (octs 4 0 l))) ∧ ref02_Text (4, ((0 : Nat) : Int), (l : Int)) = some (joinB [46] (d4 (octs 4 0 l))) := by
  have ho : okA 4 0 l := .inl ⟨rfl, rfl, hl⟩
  have hb : (octs 4 0 l).length = 4 := by simp [octs, octN]
  constructor
  · unfold addr_Text
    simp only [addr_Bytes_eq ho, Option.bind_some, hb]
    have := addr4_loop hb 4 0 [] rfl rfl
    rw [List.drop_zero, List.nil_append] at this
    rw [show (((4 : Nat) : Int) == 4) = true from rfl, cond_true, show ((4 : Nat) : Int) = 4 from rfl, show (0 : Int) = ((0 : Nat) : Int) from rfl, this, Option.bind_some, join_ok (by simp [d4, hb]) (fun x hx => ?_)]
    · rfl
    · obtain ⟨y, _, rfl⟩ := List.mem_map.1 hx
      exact d10_len _
  · unfold ref02_Text
    simp only [ref02_Bytes_eq ho, Option.bind_some, hb]
    rw [show (((4 : Nat) : Int) == 4) = true from rfl, cond_true, ref4 hb]
    rfl
end Go.Proofs.YtipgepjmjnafiaaDoor.Jv
