/- A way's text tells the way; conditions: none. -/
import Derived.Test.YtipgepjmjnafiaaDoorTextA
namespace Go.Proofs.YtipgepjmjnafiaaDoor.Jv
open Go
set_option linter.unusedSectionVars false
set_option linter.unusedVariables false
set_option linter.unusedSimpArgs false
/-! ### Parts between signs -/
def spl (c : UInt8) : List UInt8 → List (List UInt8)
  | [] => [[]]
  | x :: s => if x = c then [] :: spl c s else match spl c s with
    | [] => [[x]]
    | y :: r => (x :: y) :: r
theorem spl_ne (c : UInt8) : ∀ s, spl c s ≠ []
  | [] => by simp [spl]
  | x :: s => by
    unfold spl
    split
    · simp
    · split <;> simp
theorem spl_app (c : UInt8) : ∀ s t, spl c (s ++ c :: t) = spl c s ++ spl c t
  | [], t => by simp [spl]
  | x :: s, t => by
    rw [List.cons_append, spl, spl_app c s t, spl]
    split
    · simp
    · cases h : spl c s with
      | nil => exact absurd h (spl_ne c s)
      | cons y r => simp
theorem spl_none {c : UInt8} : ∀ {s : List UInt8}, c ∉ s → spl c s = [s]
  | [], _ => rfl
  | x :: s, h => by
    have h1 : x ≠ c := fun e => h (by simp [e])
    have h2 : c ∉ s := fun e => h (by simp [e])
    rw [spl, if_neg h1, spl_none h2]
theorem spl_tj {c : UInt8} : ∀ {l : List (List UInt8)} {x : List UInt8}, c ∉ x → (∀ y ∈ l, c ∉ y) → spl c (x ++ tj c l) = x :: l
  | [], x, hx, _ => by rw [tj, List.append_nil, spl_none hx]
  | y :: l, x, hx, hl => by
    rw [tj, List.cons_append, spl_app, spl_none hx, spl_tj (hl y (by simp)) fun z hz => hl z (by simp [hz])]
    rfl
theorem spl_join {c : UInt8} {l : List (List UInt8)} (hn : l ≠ []) (hl : ∀ y ∈ l, c ∉ y) : spl c (joinB [c] l) = l := by
  cases l with
  | nil => exact absurd rfl hn
  | cons x l => rw [joinB_cons, spl_tj (hl x (by simp)) fun y hy => hl y (by simp [hy])]
/-! ### Digits tell their number -/
def hexC (c : UInt8) : Bool := decide (48 ≤ c.toNat ∧ c.toNat ≤ 57) || decide (97 ≤ c.toNat ∧ c.toNat ≤ 102)
def unDg (c : UInt8) : Nat := if c.toNat ≤ 57 then c.toNat - 48 else c.toNat - 87
theorem dg_hex : ∀ d, d < 16 → hexC (dg d) = true := by decide
theorem dg_un : ∀ d, d < 16 → unDg (dg d) = d := by decide
def valD (b : Nat) (s : List UInt8) : Nat := s.foldl (fun a c => a * b + unDg c) 0
theorem digs_hex {b : Nat} (hb : 2 ≤ b) (hb2 : b ≤ 16) : ∀ k n, ∀ c ∈ digs b k n, hexC c = true
  | 0, _, c, h => by simp [digs] at h
  | k + 1, n, c, h => by
    unfold digs at h
    split at h
    · simp only [List.mem_cons, List.not_mem_nil, or_false] at h
      rw [h]; exact dg_hex n (by omega)
    · rcases List.mem_append.1 h with h | h
      · exact digs_hex hb hb2 k _ c h
      · simp only [List.mem_cons, List.not_mem_nil, or_false] at h
        rw [h]; exact dg_hex _ (Nat.lt_of_lt_of_le (Nat.mod_lt _ (by omega)) hb2)
theorem digs_ne (b k n : Nat) : digs b (k + 1) n ≠ [] := by
  unfold digs
  split <;> simp
theorem digs_val {b : Nat} (hb : 2 ≤ b) (hb2 : b ≤ 16) : ∀ k n, n < b ^ k → valD b (digs b k n) = n
  | 0, n, h => by
    simp only [Nat.pow_zero] at h
    have : n = 0 := by omega
    subst this; rfl
  | k + 1, n, h => by
    unfold digs
    split
    · rename_i hn
      simp only [valD, List.foldl_cons, List.foldl_nil, Nat.zero_mul, Nat.zero_add]
      exact dg_un n (by omega)
    · have h1 : n / b < b ^ k := by
        rw [Nat.div_lt_iff_lt_mul (by omega)]
        rwa [Nat.pow_succ] at h
      have ih := digs_val hb hb2 k (n / b) h1
      unfold valD at ih ⊢
      rw [List.foldl_append, ih]
      simp only [List.foldl_cons, List.foldl_nil]
      rw [dg_un _ (Nat.lt_of_lt_of_le (Nat.mod_lt _ (by omega)) hb2), Nat.mul_comm]
      exact Nat.div_add_mod n b
theorem digs_inj {b : Nat} (hb : 2 ≤ b) (hb2 : b ≤ 16) {k n m : Nat} (hn : n < b ^ k) (hm : m < b ^ k) (h : digs b k n = digs b k m) : n = m := by
  rw [← digs_val hb hb2 k n hn, ← digs_val hb hb2 k m hm, h]
theorem hex_not {c : UInt8} (h : hexC c = false) {s : List UInt8} (hs : ∀ x ∈ s, hexC x = true) : c ∉ s := fun hc => by
  rw [hs c hc] at h; cases h
/-! ### Bytes tell the address -/
theorem octs_get {f : Int} {h l q : Nat} (hq : q < octN f) : (octs f h l)[q]? = some (UInt8.ofNat (oct f h l q)) := by
  unfold octs
  rw [List.getElem?_map, List.getElem?_range hq]
  rfl
theorem oct_of {f : Int} {h l h' l' q : Nat} (hq : q < octN f) (e : octs f h l = octs f h' l') : oct f h l q = oct f h' l' q := by
  have h1 := octs_get (f := f) (h := h) (l := l) hq
  rw [e, octs_get hq] at h1
  have h2 : UInt8.ofNat (oct f h' l' q) = UInt8.ofNat (oct f h l q) := Option.some.inj h1
  have h3 := congrArg UInt8.toNat h2
  have h4 := oct_lt f h l q
  have h5 := oct_lt f h' l' q
  simp only [UInt8.toNat_ofNat'] at h3
  omega
theorem octs4_inj {l l' : Nat} (hl : l < 4294967296) (hl' : l' < 4294967296) (e : octs 4 0 l = octs 4 0 l') : l = l' := by
  have h0 := oct_of (q := 0) (by decide) e
  have h1 := oct_of (q := 1) (by decide) e
  have h2 := oct_of (q := 2) (by decide) e
  have h3 := oct_of (q := 3) (by decide) e
  simp only [oct, if_true] at h0 h1 h2 h3
  omega
theorem octs6_inj {h l h' l' : Nat} (hh : h < 18446744073709551616) (hl : l < 18446744073709551616) (hh' : h' < 18446744073709551616) (hl' : l' < 18446744073709551616) (e : octs 6 h l = octs 6 h' l') : h = h' ∧ l = l' := by
  have g : ∀ q, q < 16 → oct 6 h l q = oct 6 h' l' q := fun q hq => oct_of (by rw [show octN 6 = 16 from rfl]; exact hq) e
  have h0 := g 0 (by decide)
  have h1 := g 1 (by decide)
  have h2 := g 2 (by decide)
  have h3 := g 3 (by decide)
  have h4 := g 4 (by decide)
  have h5 := g 5 (by decide)
  have h6 := g 6 (by decide)
  have h7 := g 7 (by decide)
  have h8 := g 8 (by decide)
  have h9 := g 9 (by decide)
  have h10 := g 10 (by decide)
  have h11 := g 11 (by decide)
  have h12 := g 12 (by decide)
  have h13 := g 13 (by decide)
  have h14 := g 14 (by decide)
  have h15 := g 15 (by decide)
  clear g e
  simp only [oct, show ¬ ((6 : Int) = 4) by decide, if_false] at h0 h1 h2 h3 h4 h5 h6 h7 h8 h9 h10 h11 h12 h13 h14 h15
  simp only [show (0 : Nat) < 8 by decide, show (1 : Nat) < 8 by decide, show (2 : Nat) < 8 by decide, show (3 : Nat) < 8 by decide, show (4 : Nat) < 8 by decide, show (5 : Nat) < 8 by decide, show (6 : Nat) < 8 by decide, show (7 : Nat) < 8 by decide, if_true] at h0 h1 h2 h3 h4 h5 h6 h7
  simp only [show ¬ (8 : Nat) < 8 by decide, show ¬ (9 : Nat) < 8 by decide, show ¬ (10 : Nat) < 8 by decide, show ¬ (11 : Nat) < 8 by decide, show ¬ (12 : Nat) < 8 by decide, show ¬ (13 : Nat) < 8 by decide, show ¬ (14 : Nat) < 8 by decide, show ¬ (15 : Nat) < 8 by decide, if_false] at h8 h9 h10 h11 h12 h13 h14 h15
  constructor
  · clear h8 h9 h10 h11 h12 h13 h14 h15 hl hl'
    omega
  · clear h0 h1 h2 h3 h4 h5 h6 h7 hh hh'
    omega
theorem gsOf_inj {b b' : List UInt8} (hb : b.length = 16) (hb' : b'.length = 16) (e : gsOf b = gsOf b') : b = b' := by
  have g : ∀ j, j < 8 → grp b j = grp b' j := fun j hj => by
    have h1 : (gsOf b)[j]? = some (grp b j) := by simp [gsOf, List.getElem?_range', hj]
    have h2 : (gsOf b')[j]? = some (grp b' j) := by simp [gsOf, List.getElem?_range', hj]
    rw [e, h2] at h1
    exact (Option.some.inj h1).symm
  refine List.ext_getElem (by omega) fun i h1 h2 => ?_
  have hg := g (i / 2) (by omega)
  unfold grp at hg
  have a1 := (b.getD (2 * (i / 2)) 0).toNat_lt
  have a2 := (b.getD (2 * (i / 2) + 1) 0).toNat_lt
  have a3 := (b'.getD (2 * (i / 2)) 0).toNat_lt
  have a4 := (b'.getD (2 * (i / 2) + 1) 0).toNat_lt
  have e1 : (b.getD (2 * (i / 2)) 0).toNat = (b'.getD (2 * (i / 2)) 0).toNat := by omega
  have e2 : (b.getD (2 * (i / 2) + 1) 0).toNat = (b'.getD (2 * (i / 2) + 1) 0).toNat := by omega
  have e3 := UInt8.toNat_inj.1 e1
  have e4 := UInt8.toNat_inj.1 e2
  rcases Nat.mod_two_eq_zero_or_one i with hm | hm
  · rw [show 2 * (i / 2) = i by omega, getD_at _ _ h1, getD_at _ _ h2] at e3
    exact e3
  · rw [show 2 * (i / 2) + 1 = i by omega, getD_at _ _ h1, getD_at _ _ h2] at e4
    exact e4
end Go.Proofs.YtipgepjmjnafiaaDoor.Jv
