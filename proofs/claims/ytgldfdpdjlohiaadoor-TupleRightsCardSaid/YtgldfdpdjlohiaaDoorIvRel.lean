/- How the ideal machine's values stand to the model's values and memory; conditions: none. -/
import Derived.Test.YtgldfdpdjlohiaaDoorIvDefs
import Derived.Deep.MidRow
import Derived.Deep.AppendSrc
namespace Go.Proofs.YtgldfdpdjlohiaaDoor.Iv
open Go Go.RowKit

/-- What never turns: cells and what they hold. -/
abbrev Mem := Nat → Nat → Value → Prop
/-- Where a block of the function's own lies. -/
structure Lo where
  blk : Nat
  size : Nat
  len : Nat
  box : Bool
abbrev Locs := Nat → Option Lo

mutual
def RP (S : Mem) : PV → Value → Prop
  | .v x, v => v = x
  | .agg l, v => ∃ cs : List Value, v = .agg ⟨cs⟩ ∧ RPs S l cs
  | .tup l, v => ∃ cs : List Value, v = .tuple ⟨cs⟩ ∧ RPs S l cs
  | .ro n l, v => ∃ a cap, v = .slice a n cap ∧ n ≤ cap ∧ ((n = 0 ∧ l = []) ∨ ∃ b o, a = some ⟨b, o, none⟩ ∧ RPm S l b o)
  | .rop l, v => ∃ b o, v = .pointer (some ⟨b, o, none⟩) ∧ RPm S l b o
def RPs (S : Mem) : List PV → List Value → Prop
  | [], vs => vs = []
  | x :: l, vs => ∃ v r, vs = v :: r ∧ RP S x v ∧ RPs S l r
def RPm (S : Mem) : List PV → Nat → Nat → Prop
  | [], _, _ => True
  | x :: l, b, o => (∃ c, S b o c ∧ RP S x c) ∧ RPm S l b (o + 1)
end

mutual
def RI (S : Mem) (L : Locs) : IV → Value → Prop
  | .p x, v => RP S x v
  | .agg l, v => ∃ cs : List Value, v = .agg ⟨cs⟩ ∧ RIs S L l cs
  | .tup l, v => ∃ cs : List Value, v = .tuple ⟨cs⟩ ∧ RIs S L l cs
  | .row b sz n, v => ∃ lo, L b = some lo ∧ lo.box = false ∧ ∃ cap, v = .slice (some ⟨lo.blk, 0, none⟩) n cap ∧ n * sz = lo.len ∧ cap * sz = lo.size ∧ n ≤ cap ∧ sz ≠ 0
  | .rw b sz off n, v => ∃ lo, L b = some lo ∧ True ∧ ∃ a cap, v = .slice a n cap ∧ n ≤ cap ∧ off + n * sz ≤ lo.len ∧ sz ≠ 0 ∧ (n = 0 ∨ a = some ⟨lo.blk, off, none⟩)
  | .ptr b off, v => ∃ lo, L b = some lo ∧ lo.box = true ∧ v = .pointer (some ⟨lo.blk, off, none⟩)
  | .eptr b off, v => ∃ lo, L b = some lo ∧ True ∧ v = .pointer (some ⟨lo.blk, off, none⟩)
  | .fn f cap, v => stabL cap = true ∧ ∃ cs : List Value, v = .func f #[] ⟨cs⟩ ∧ RIs S L cap cs
  | .it b, v => ∃ lo, L b = some lo ∧ lo.box = true ∧ v = .pointer (some ⟨lo.blk, 0, none⟩)
  | .undef, _ => True
def RIs (S : Mem) (L : Locs) : List IV → List Value → Prop
  | [], vs => vs = []
  | x :: l, vs => ∃ v r, vs = v :: r ∧ RI S L x v ∧ RIs S L l r
end

/-! ### Lists -/
section lists
variable {S : Mem} {L : Locs}
theorem RPs_nil {vs : List Value} : RPs S [] vs ↔ vs = [] := by simp [RPs]
theorem RPs_cons {x : PV} {l : List PV} {v : Value} {vs : List Value} : RPs S (x :: l) (v :: vs) ↔ RP S x v ∧ RPs S l vs := by
  simp only [RPs]
  exact ⟨fun ⟨_, _, e, h⟩ => by cases e; exact h, fun h => ⟨_, _, rfl, h⟩⟩
theorem RIs_nil {vs : List Value} : RIs S L [] vs ↔ vs = [] := by simp [RIs]
theorem RIs_cons {x : IV} {l : List IV} {v : Value} {vs : List Value} : RIs S L (x :: l) (v :: vs) ↔ RI S L x v ∧ RIs S L l vs := by
  simp only [RIs]
  exact ⟨fun ⟨_, _, e, h⟩ => by cases e; exact h, fun h => ⟨_, _, rfl, h⟩⟩
theorem RPs.length {l : List PV} {vs : List Value} (h : RPs S l vs) : vs.length = l.length := by
  induction l generalizing vs with
  | nil => rw [RPs_nil] at h; subst h; rfl
  | cons x l ih => obtain ⟨v, r, rfl, _, h2⟩ := h; simp [ih h2]
theorem RIs.length {l : List IV} {vs : List Value} (h : RIs S L l vs) : vs.length = l.length := by
  induction l generalizing vs with
  | nil => rw [RIs_nil] at h; subst h; rfl
  | cons x l ih => obtain ⟨v, r, rfl, _, h2⟩ := h; simp [ih h2]
theorem RIs.get {l : List IV} {vs : List Value} (h : RIs S L l vs) {i : Nat} {x : IV} (hx : l[i]? = some x) : ∃ v, vs[i]? = some v ∧ RI S L x v := by
  induction l generalizing vs i with
  | nil => simp at hx
  | cons y l ih =>
    obtain ⟨v, r, rfl, h1, h2⟩ := h
    cases i with
    | zero => simp at hx; subst hx; exact ⟨v, rfl, h1⟩
    | succ i => simpa using ih h2 (by simpa using hx)
theorem RPs.get {l : List PV} {vs : List Value} (h : RPs S l vs) {i : Nat} {x : PV} (hx : l[i]? = some x) : ∃ v, vs[i]? = some v ∧ RP S x v := by
  induction l generalizing vs i with
  | nil => simp at hx
  | cons y l ih =>
    obtain ⟨v, r, rfl, h1, h2⟩ := h
    cases i with
    | zero => simp at hx; subst hx; exact ⟨v, rfl, h1⟩
    | succ i => simpa using ih h2 (by simpa using hx)
theorem RIs.append {l r : List IV} {vs ws : List Value} (h : RIs S L l vs) (k : RIs S L r ws) : RIs S L (l ++ r) (vs ++ ws) := by
  induction l generalizing vs with
  | nil => rw [RIs_nil] at h; subst h; exact k
  | cons x l ih => obtain ⟨v, t, rfl, h1, h2⟩ := h; exact RIs_cons.2 ⟨h1, ih h2⟩
theorem RPs.append {l r : List PV} {vs ws : List Value} (h : RPs S l vs) (k : RPs S r ws) : RPs S (l ++ r) (vs ++ ws) := by
  induction l generalizing vs with
  | nil => rw [RPs_nil] at h; subst h; exact k
  | cons x l ih => obtain ⟨v, t, rfl, h1, h2⟩ := h; exact RPs_cons.2 ⟨h1, ih h2⟩
theorem RIs.take {l : List IV} {vs : List Value} (h : RIs S L l vs) (n : Nat) : RIs S L (l.take n) (vs.take n) := by
  induction n generalizing l vs with
  | zero => simp [RIs]
  | succ n ih =>
    cases l with
    | nil => rw [RIs_nil] at h; subst h; simp [RIs]
    | cons x l => obtain ⟨v, t, rfl, h1, h2⟩ := h; exact RIs_cons.2 ⟨h1, ih h2⟩
theorem RIs.drop {l : List IV} {vs : List Value} (h : RIs S L l vs) (n : Nat) : RIs S L (l.drop n) (vs.drop n) := by
  induction n generalizing l vs with
  | zero => simpa using h
  | succ n ih =>
    cases l with
    | nil => rw [RIs_nil] at h; subst h; simp [RIs]
    | cons x l => obtain ⟨v, t, rfl, h1, h2⟩ := h; exact ih h2
theorem RPs.take {l : List PV} {vs : List Value} (h : RPs S l vs) (n : Nat) : RPs S (l.take n) (vs.take n) := by
  induction n generalizing l vs with
  | zero => simp [RPs]
  | succ n ih =>
    cases l with
    | nil => rw [RPs_nil] at h; subst h; simp [RPs]
    | cons x l => obtain ⟨v, t, rfl, h1, h2⟩ := h; exact RPs_cons.2 ⟨h1, ih h2⟩
theorem RPs.drop {l : List PV} {vs : List Value} (h : RPs S l vs) (n : Nat) : RPs S (l.drop n) (vs.drop n) := by
  induction n generalizing l vs with
  | zero => simpa using h
  | succ n ih =>
    cases l with
    | nil => rw [RPs_nil] at h; subst h; simp [RPs]
    | cons x l => obtain ⟨v, t, rfl, h1, h2⟩ := h; exact ih h2
theorem RIs.set {l : List IV} {vs : List Value} (h : RIs S L l vs) (i : Nat) {x : IV} {v : Value} (hx : RI S L x v) : RIs S L (l.set i x) (vs.set i v) := by
  induction l generalizing vs i with
  | nil => rw [RIs_nil] at h; subst h; simp [RIs]
  | cons y l ih =>
    obtain ⟨u, t, rfl, h1, h2⟩ := h
    cases i with
    | zero => exact RIs_cons.2 ⟨hx, h2⟩
    | succ i => exact RIs_cons.2 ⟨h1, ih h2 i⟩
theorem RIs_mapP {l : List PV} {vs : List Value} : RIs S L (l.map .p) vs ↔ RPs S l vs := by
  induction l generalizing vs with
  | nil => simp [RIs, RPs]
  | cons x l ih => simp only [List.map_cons, RIs, RPs, ih, RI]
theorem RPs_mapV (l : List Value) : RPs S (l.map .v) l := by
  induction l with
  | nil => simp [RPs]
  | cons x l ih => exact RPs_cons.2 ⟨by simp [RP], ih⟩
theorem RPs_mapV' {l : List Value} {vs : List Value} : RPs S (l.map .v) vs ↔ vs = l := by
  induction l generalizing vs with
  | nil => simp [RPs]
  | cons x l ih =>
    simp only [List.map_cons, RPs, ih, RP]
    constructor
    · rintro ⟨v, r, rfl, rfl, rfl⟩; rfl
    · rintro rfl; exact ⟨_, _, rfl, rfl, rfl⟩
theorem RPs_append {l r : List PV} {vs : List Value} (h : RPs S (l ++ r) vs) : ∃ a b, vs = a ++ b ∧ RPs S l a ∧ RPs S r b := by
  induction l generalizing vs with
  | nil => exact ⟨[], vs, rfl, by simp [RPs], h⟩
  | cons x l ih =>
    obtain ⟨v, t, rfl, h1, h2⟩ := h
    obtain ⟨a, b, rfl, h3, h4⟩ := ih h2
    exact ⟨v :: a, b, rfl, RPs_cons.2 ⟨h1, h3⟩, h4⟩
theorem allV_some {l : List PV} {r : List Value} (h : allV l = some r) : l = r.map .v := by
  induction l generalizing r with
  | nil => simp [allV] at h; subst h; rfl
  | cons x l ih =>
    cases x <;> simp only [allV] at h <;> try (cases h)
    split at h
    · rename_i q hq; cases h; rw [ih hq]; rfl
    · cases h
theorem allP_some {l : List IV} {r : List PV} (h : allP l = some r) : l = r.map .p := by
  induction l generalizing r with
  | nil => simp [allP] at h; subst h; rfl
  | cons x l ih =>
    cases x <;> simp only [allP] at h <;> try (cases h)
    split at h
    · rename_i q hq; cases h; rw [ih hq]; rfl
    · cases h
theorem mkAggP_rel {l : List PV} {cs : List Value} (h : RPs S l cs) : RP S (mkAggP l) (.agg ⟨cs⟩) := by
  unfold mkAggP
  split
  · rename_i r hr; rw [allV_some hr, RPs_mapV'] at h; subst h; simp [RP]
  · exact ⟨cs, rfl, h⟩
theorem mkTupP_rel {l : List PV} {cs : List Value} (h : RPs S l cs) : RP S (mkTupP l) (.tuple ⟨cs⟩) := by
  unfold mkTupP
  split
  · rename_i r hr; rw [allV_some hr, RPs_mapV'] at h; subst h; simp [RP]
  · exact ⟨cs, rfl, h⟩
theorem mkAgg_rel {l : List IV} {cs : List Value} (h : RIs S L l cs) : RI S L (mkAgg l) (.agg ⟨cs⟩) := by
  unfold mkAgg
  split
  · rename_i r hr; rw [allP_some hr, RIs_mapP] at h; exact mkAggP_rel h
  · exact ⟨cs, rfl, h⟩
theorem mkTup_rel {l : List IV} {cs : List Value} (h : RIs S L l cs) : RI S L (mkTup l) (.tuple ⟨cs⟩) := by
  unfold mkTup
  split
  · rename_i r hr; rw [allP_some hr, RIs_mapP] at h; exact mkTupP_rel h
  · exact ⟨cs, rfl, h⟩
theorem cellsP_rel {x : PV} {v : Value} (h : RP S x v) : RPs S (cellsP x) v.cells.toList := by
  cases x with
  | v y =>
    simp only [RP] at h; subst h
    cases v <;> simp only [cellsP, Value.cells] <;> first | exact RPs_mapV _ | simp [RPs, RP]
  | agg l => obtain ⟨cs, rfl, h⟩ := h; exact h
  | tup l => obtain ⟨cs, rfl, h⟩ := h; exact RPs_cons.2 ⟨⟨cs, rfl, h⟩, by simp [RPs]⟩
  | ro n l => obtain ⟨a, cap, rfl, h⟩ := h; exact RPs_cons.2 ⟨⟨a, cap, rfl, h⟩, by simp [RPs]⟩
  | rop l => obtain ⟨a, cap, rfl, h⟩ := h; exact RPs_cons.2 ⟨⟨a, cap, rfl, h⟩, by simp [RPs]⟩
theorem cellsI_rel {x : IV} {v : Value} (hx : x ≠ .undef) (h : RI S L x v) : RIs S L (cellsI x) v.cells.toList := by
  cases x with
  | p y => exact RIs_mapP.2 (cellsP_rel h)
  | agg l => obtain ⟨cs, rfl, h⟩ := h; exact h
  | tup l => obtain ⟨cs, rfl, h⟩ := h; exact RIs_cons.2 ⟨⟨cs, rfl, h⟩, by simp [RIs]⟩
  | row b sz n => obtain ⟨lo, h1, h2, cap, rfl, h3⟩ := h; exact RIs_cons.2 ⟨⟨lo, h1, h2, cap, rfl, h3⟩, by simp [RIs]⟩
  | rw b sz o n => obtain ⟨lo, h1, h2, a, cap, rfl, h3⟩ := h; exact RIs_cons.2 ⟨⟨lo, h1, h2, a, cap, rfl, h3⟩, by simp [RIs]⟩
  | ptr b o => obtain ⟨lo, h1, h2, rfl⟩ := h; exact RIs_cons.2 ⟨⟨lo, h1, h2, rfl⟩, by simp [RIs]⟩
  | eptr b o => obtain ⟨lo, h1, h2, rfl⟩ := h; exact RIs_cons.2 ⟨⟨lo, h1, h2, rfl⟩, by simp [RIs]⟩
  | fn f c => obtain ⟨h1, cs, rfl, h2⟩ := h; exact RIs_cons.2 ⟨⟨h1, cs, rfl, h2⟩, by simp [RIs]⟩
  | it b => obtain ⟨lo, h1, h2, rfl⟩ := h; exact RIs_cons.2 ⟨⟨lo, h1, h2, rfl⟩, by simp [RIs]⟩
  | undef => exact absurd rfl hx
theorem compsP_rel {x : PV} {vs : List Value} (h : RP S x (.tuple ⟨vs⟩)) : RPs S (compsP x) vs := by
  cases x with
  | v y => simp only [RP] at h; subst h; exact RPs_mapV _
  | agg l => obtain ⟨cs, h1, h⟩ := h; cases h1
  | tup l => obtain ⟨cs, h1, h⟩ := h; cases h1; exact h
  | ro n l => obtain ⟨a, cap, h1, h⟩ := h; cases h1
  | rop l => obtain ⟨a, cap, h1, h⟩ := h; cases h1
end lists

/-! ### More is known, more blocks are there -/
section mono
variable {S S' : Mem} {L L' : Locs}
theorem RP_mono_aux (hS : ∀ b o v, S b o v → S' b o v) : (∀ x v, RP S x v → RP S' x v) ∧ (∀ l : List PV, (∀ vs, RPs S l vs → RPs S' l vs) ∧ (∀ b o, RPm S l b o → RPm S' l b o)) := by
  have h : ∀ x : PV, ∀ v, RP S x v → RP S' x v := by
    intro x
    induction x using PV.rec (motive_2 := fun l => (∀ vs, RPs S l vs → RPs S' l vs) ∧ (∀ b o, RPm S l b o → RPm S' l b o)) with
    | v x => intro v h; exact h
    | agg l ih => rintro v ⟨cs, rfl, h⟩; exact ⟨cs, rfl, ih.1 _ h⟩
    | tup l ih => rintro v ⟨cs, rfl, h⟩; exact ⟨cs, rfl, ih.1 _ h⟩
    | ro n l ih =>
      rintro v ⟨a, cap, rfl, h1, h2⟩
      exact ⟨a, cap, rfl, h1, h2.imp id fun ⟨b, o, e, h⟩ => ⟨b, o, e, ih.2 _ _ h⟩⟩
    | rop l ih => rintro v ⟨b, o, rfl, h⟩; exact ⟨b, o, rfl, ih.2 _ _ h⟩
    | nil => exact ⟨fun vs h => by simpa [RPs] using h, fun _ _ _ => by simp [RPm]⟩
    | cons x l ih1 ih2 =>
      refine ⟨?_, ?_⟩
      · rintro vs ⟨v, r, rfl, h1, h2⟩; exact ⟨v, r, rfl, ih1 _ h1, ih2.1 _ h2⟩
      · rintro b o ⟨⟨c, h1, h2⟩, h3⟩; exact ⟨⟨c, hS _ _ _ h1, ih1 _ h2⟩, ih2.2 _ _ h3⟩
  refine ⟨h, fun l => ?_⟩
  induction l with
  | nil => exact ⟨fun vs h => by simpa [RPs] using h, fun _ _ _ => by simp [RPm]⟩
  | cons x l ih =>
    refine ⟨?_, ?_⟩
    · rintro vs ⟨v, r, rfl, h1, h2⟩; exact ⟨v, r, rfl, h _ _ h1, ih.1 _ h2⟩
    · rintro b o ⟨⟨c, h1, h2⟩, h3⟩; exact ⟨⟨c, hS _ _ _ h1, h _ _ h2⟩, ih.2 _ _ h3⟩
theorem RP.mono (hS : ∀ b o v, S b o v → S' b o v) {x : PV} {v : Value} (h : RP S x v) : RP S' x v := (RP_mono_aux hS).1 _ _ h
theorem RPs.mono (hS : ∀ b o v, S b o v → S' b o v) {l : List PV} {vs : List Value} (h : RPs S l vs) : RPs S' l vs := ((RP_mono_aux hS).2 l).1 _ h
theorem RPm.mono (hS : ∀ b o v, S b o v → S' b o v) {l : List PV} {b o : Nat} (h : RPm S l b o) : RPm S' l b o := ((RP_mono_aux hS).2 l).2 _ _ h

/-- A change of values and blocks that the relation outlives: k says what a value becomes. -/
theorem RIs_of (k : IV → IV) (h : ∀ x v, RI S L x v → RI S' L' (k x) v) {l : List IV} {vs : List Value} (hl : RIs S L l vs) : RIs S' L' (killL k l) vs := by
  induction l generalizing vs with
  | nil => simpa [killL, RIs] using hl
  | cons x l ih => obtain ⟨v, r, rfl, h1, h2⟩ := hl; exact ⟨v, r, rfl, h _ _ h1, ih h2⟩
theorem RI_mono_aux (hS : ∀ b o v, S b o v → S' b o v) (hL : ∀ i lo, L i = some lo → L' i = some lo) (x : IV) : ∀ v, RI S L x v → RI S' L' x v := by
  induction x using IV.rec (motive_2 := fun l => ∀ vs, RIs S L l vs → RIs S' L' l vs) with
  | p x => intro v h; exact RP.mono hS h
  | agg l ih => rintro v ⟨cs, rfl, h⟩; exact ⟨cs, rfl, ih _ h⟩
  | tup l ih => rintro v ⟨cs, rfl, h⟩; exact ⟨cs, rfl, ih _ h⟩
  | row b sz n => rintro v ⟨lo, h1, h⟩; exact ⟨lo, hL _ _ h1, h⟩
  | rw b sz o n => rintro v ⟨lo, h1, h⟩; exact ⟨lo, hL _ _ h1, h⟩
  | ptr b o => rintro v ⟨lo, h1, h⟩; exact ⟨lo, hL _ _ h1, h⟩
  | eptr b o => rintro v ⟨lo, h1, h⟩; exact ⟨lo, hL _ _ h1, h⟩
  | fn f c ih => rintro v ⟨h1, cs, rfl, h⟩; exact ⟨h1, cs, rfl, ih _ h⟩
  | it b => rintro v ⟨lo, h1, h⟩; exact ⟨lo, hL _ _ h1, h⟩
  | undef => intro v _; trivial
  | nil => rename_i h; simpa [RIs] using h
  | cons x l ih1 ih2 => rename_i h; obtain ⟨v, r, rfl, h1, h2⟩ := h; exact ⟨v, r, rfl, ih1 _ h1, ih2 _ h2⟩
theorem RI.mono (hS : ∀ b o v, S b o v → S' b o v) (hL : ∀ i lo, L i = some lo → L' i = some lo) {x : IV} {v : Value} (h : RI S L x v) : RI S' L' x v := RI_mono_aux hS hL x v h
theorem RIs.mono (hS : ∀ b o v, S b o v → S' b o v) (hL : ∀ i lo, L i = some lo → L' i = some lo) {l : List IV} {vs : List Value} (h : RIs S L l vs) : RIs S' L' l vs := by
  induction l generalizing vs with
  | nil => simpa [RIs] using h
  | cons x l ih => obtain ⟨v, r, rfl, h1, h2⟩ := h; exact ⟨v, r, rfl, h1.mono hS hL, ih h2⟩
/-- Boxes stay: function values stay. -/
theorem RIs_stab (hS : ∀ b o v, S b o v → S' b o v) (hL : ∀ i lo, L i = some lo → lo.box = true → L' i = some lo) {l : List IV} {vs : List Value} (hs : stabL l = true) (h : RIs S L l vs) : RIs S' L' l vs := by
  induction l generalizing vs with
  | nil => simpa [RIs] using h
  | cons x l ih =>
    obtain ⟨v, r, rfl, h1, h2⟩ := h
    cases x <;> simp only [stabL] at hs <;> try (cases hs)
    · exact ⟨v, r, rfl, RP.mono hS h1, ih hs h2⟩
    · obtain ⟨lo, e1, e2, e3⟩ := h1
      exact ⟨v, r, rfl, ⟨lo, hL _ _ e1 e2, e2, e3⟩, ih hs h2⟩
theorem RI_drop (hS : ∀ b o v, S b o v → S' b o v) (hL : ∀ i lo, L i = some lo → lo.box = true → L' i = some lo) (x : IV) (v : Value) (h : RI S L x v) : RI S' L' (dropU x) v := by
  cases x with
  | p x => exact RP.mono hS h
  | ptr b o => obtain ⟨lo, e1, e2, e3⟩ := h; exact ⟨lo, hL _ _ e1 e2, e2, e3⟩
  | it b => obtain ⟨lo, e1, e2, e3⟩ := h; exact ⟨lo, hL _ _ e1 e2, e2, e3⟩
  | fn f c => obtain ⟨h1, cs, rfl, h2⟩ := h; exact ⟨h1, cs, rfl, RIs_stab hS hL h1 h2⟩
  | _ => trivial
theorem RI_kill {b : Nat} (hb : ∀ lo, L b = some lo → lo.box = false) (hS : ∀ b o v, S b o v → S' b o v) (hL : ∀ i lo, i ≠ b → L i = some lo → L' i = some lo) (x : IV) (v : Value) (h : RI S L x v) : RI S' L' (kill b x) v := by
  have hbox : ∀ i lo, L i = some lo → lo.box = true → L' i = some lo := fun i lo h1 h2 => hL i lo (fun e => by subst e; rw [hb _ h1] at h2; cases h2) h1
  cases x with
  | p x => exact RP.mono hS h
  | ptr c o => exact RI_drop hS hbox (.ptr c o) v h
  | it c => exact RI_drop hS hbox (.it c) v h
  | fn f c => exact RI_drop hS hbox (.fn f c) v h
  | row c sz n =>
    obtain ⟨lo, h1, h⟩ := h
    simp only [kill]
    split
    · trivial
    · rename_i hne; exact ⟨lo, hL _ _ hne h1, h⟩
  | rw c sz o n =>
    obtain ⟨lo, h1, h⟩ := h
    simp only [kill]
    split
    · trivial
    · rename_i hne; exact ⟨lo, hL _ _ hne h1, h⟩
  | eptr c o =>
    obtain ⟨lo, h1, h⟩ := h
    simp only [kill]
    split
    · trivial
    · rename_i hne; exact ⟨lo, hL _ _ hne h1, h⟩
  | _ => trivial
end mono

/-! ### Memory -/
section memory
variable {S : Mem} {L : Locs}
/-- A block's cells. -/
def BRc (S : Mem) (L : Locs) (w : World) (lo : Lo) (l : List IV) : Prop :=
  ∃ cs : List Value, cs.length = lo.size ∧ l.length = lo.len ∧ lo.len ≤ lo.size ∧ w.rangeAt lo.blk 0 cs ∧ w.there lo.blk 0 lo.size ∧
    (∀ v ∈ cs, v.oneCell' = true) ∧ RIs S L l (cs.take lo.len)
def BR (S : Mem) (L : Locs) (w : World) (lo : Lo) : Blk → Prop
  | .pc l => BRc S L w lo (l.map .p)
  | .gc l => BRc S L w lo l
  | .iter s pos => lo.box = true ∧ w.heap[lo.blk]? = some (.stringIter s pos)
  | .dead => True
structure Inv (S : Mem) (L : Locs) (H : Hp) (w : World) : Prop where
  blk : ∀ b k, H[b]? = some k → k = .dead ∨ ∃ lo, L b = some lo ∧ BR S L w lo k
  out : ∀ b, H.length ≤ b → L b = none
  inj : ∀ i j lo lo', L i = some lo → L j = some lo' → i ≠ j → lo.blk ≠ lo'.blk
  inh : ∀ i lo, L i = some lo → lo.blk < w.heap.size
  sta : ∀ b o v, S b o v → w.cell? ⟨b, o, none⟩ = some v ∧ v.oneCell' = true ∧ b < w.heap.size ∧ ∀ i lo, L i = some lo → lo.blk ≠ b
/-- The blocks of one's own. -/
def Own (L : Locs) (k : Nat) : Prop := ∃ i lo, L i = some lo ∧ lo.blk = k
/-- All that was there is as it was, but for one's own blocks. -/
structure Kp (O : Nat → Prop) (w w' : World) : Prop where
  os : w'.os = w.os
  tape : w'.tape = w.tape
  output : w'.output = w.output
  size : w.heap.size ≤ w'.heap.size
  block : ∀ k, k < w.heap.size → ¬ O k → w'.heap[k]? = w.heap[k]?
theorem Kp.refl (O : Nat → Prop) (w : World) : Kp O w w := ⟨rfl, rfl, rfl, Nat.le_refl _, fun _ _ _ => rfl⟩
theorem Kp.trans {O O' : Nat → Prop} {a b c : World} (h : Kp O a b) (k : Kp O' b c) (ho : ∀ i, i < a.heap.size → O' i → O i) : Kp O a c :=
  ⟨k.os.trans h.os, k.tape.trans h.tape, k.output.trans h.output, Nat.le_trans h.size k.size, fun i hi hn =>
    (k.block i (Nat.lt_of_lt_of_le hi h.size) (fun q => hn (ho i hi q))).trans (h.block i hi hn)⟩
theorem Kp.mono {O O' : Nat → Prop} {a b : World} (h : Kp O a b) (ho : ∀ i, O i → O' i) : Kp O' a b :=
  ⟨h.os, h.tape, h.output, h.size, fun i hi hn => h.block i hi fun q => hn (ho i q)⟩
theorem Kp.below {w w' : World} (h : Kp (fun _ => False) w w') : Below w.heap.size w w' := ⟨h.os, h.tape, h.output, h.size, fun k hk => h.block k hk id⟩
theorem Kp.cell {O : Nat → Prop} {w w' : World} (h : Kp O w w') {a : Addr} (ha : a.block < w.heap.size) (hn : ¬ O a.block) : w'.cell? a = w.cell? a :=
  World.cell?_of_block (h.block _ ha hn)
theorem Kp.frozen {O : Nat → Prop} {w w' : World} (h : Kp O w w') {a : Addr} (ha : a.block < w.heap.size) (hn : ¬ O a.block) : w'.frozen? a = w.frozen? a :=
  World.frozen?_of_block (h.block _ ha hn)
/-- A block in another world, where it is as it was; more is known. -/
theorem BRc.mono {S' : Mem} {L' : Locs} {w w' : World} {lo : Lo} {l : List IV} (h : BRc S L w lo l) (hS : ∀ b o v, S b o v → S' b o v)
    (hb : w'.heap[lo.blk]? = w.heap[lo.blk]?) (k : IV → IV) (hk : ∀ x v, RI S L x v → RI S' L' (k x) v) : BRc S' L' w' lo (killL k l) := by
  obtain ⟨cs, h1, h2, h3, h4, h5, h6, h7⟩ := h
  refine ⟨cs, h1, ?_, h3, fun j v hv => ?_, fun j hj => ?_, h6, RIs_of k hk h7⟩
  · rw [← h2]; clear h2 h7; induction l with
    | nil => rfl
    | cons x l ih => simp [killL, ih]
  · rw [World.cell?_of_block hb]; exact h4 j v hv
  · rw [World.cell?_of_block hb, World.frozen?_of_block hb]; exact h5 j hj
end memory
end Go.Proofs.YtgldfdpdjlohiaaDoor.Iv
