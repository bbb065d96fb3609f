/- How the ideal machine's values stand to the model's values and memory; conditions: none. -/
import Derived.Test.YtfaofikhabccoaaGreatDoorJvDefs
import Derived.Deep.MidRow
import Derived.Deep.AppendSrc
namespace Go.Proofs.YtfaofikhabccoaaGreatDoor.Jv
open Go Go.RowKit
set_option linter.unusedVariables false
set_option linter.unusedSimpArgs false

/-- What never turns: cells and what they hold. -/
abbrev Mem := Nat → Nat → Value → Prop
/-- Where a block of the function's own lies (of no cells: it lies nowhere). -/
structure Lo where
  blk : Nat
  size : Nat
  len : Nat
  box : Bool
abbrev Locs := Nat → Option Lo

/-- Typed data in memory. -/
def RSl {α : Type} (r : α → Nat → Nat → Prop) (sz : Nat) (l : List α) (v : Value) : Prop :=
  ∃ a cap, v = .slice a l.length cap ∧ l.length ≤ cap ∧ (l = [] ∨ ∃ b o, a = some ⟨b, o, none⟩ ∧ ∀ i x, l[i]? = some x → r x b (o + i * sz))
/-- An error: is it none? -/
def RE (x : Bool) (v : Value) : Prop := (x = true ∧ v = .nilIface) ∨ (x = false ∧ ∃ t u, v = .iface t u)
/-- A pointer to a thing, or none. -/
def RO {α : Type} (r : α → Nat → Nat → Prop) (x : Option α) (v : Value) : Prop := (x = none ∧ v = .pointer none) ∨ ∃ y b o, x = some y ∧ v = .pointer (some ⟨b, o, none⟩) ∧ r y b o
def RT (S : Mem) : (t : Ty) → T t → Nat → Nat → Prop
  | .int k, x, b, o => S b o (.int k x)
  | .u8, x, b, o => S b o (.int .u8 (x.toNat : Int))
  | .bool, x, b, o => S b o (.bool x)
  | .str, x, b, o => S b o (.string ⟨⟨x⟩⟩)
  | .err, x, b, o => ∃ v, S b o v ∧ RE x v
  | .sl t, l, b, o => ∃ v, S b o v ∧ RSl (RT S t) (sizeTy t) l v
  | .pair p q, x, b, o => RT S p x.1 b o ∧ RT S q x.2 b (o + sizeTy p)
  | .opt t, x, b, o => ∃ v, S b o v ∧ RO (RT S t) x v

mutual
def RP (S : Mem) : PV → Value → Prop
  | .v x, v => v = x
  | .agg l, v => ∃ cs : List Value, v = .agg ⟨cs⟩ ∧ RPs S l cs
  | .tup l, v => ∃ cs : List Value, v = .tuple ⟨cs⟩ ∧ RPs S l cs
  | .sl t l, v => RSl (RT S t) (sizeTy t) l v
  | .rop l, v => ∃ b o, v = .pointer (some ⟨b, o, none⟩) ∧ RPm S l b o
  | .err x, v => RE x v
  | .opt t x, v => RO (RT S t) x v
def RPs (S : Mem) : List PV → List Value → Prop
  | [], vs => vs = []
  | x :: l, vs => ∃ v r, vs = v :: r ∧ RP S x v ∧ RPs S l r
def RPm (S : Mem) : List PV → Nat → Nat → Prop
  | [], _, _ => True
  | x :: l, b, o => (∃ c, S b o c ∧ RP S x c) ∧ RPm S l b (o + 1)
end

mutual
def RI (S : Mem) (L : Locs) : IV → Value → Prop
  | .p x, v => RP S x v
  | .agg l, v => ∃ cs : List Value, v = .agg ⟨cs⟩ ∧ RIs S L l cs
  | .tup l, v => ∃ cs : List Value, v = .tuple ⟨cs⟩ ∧ RIs S L l cs
  | .row b sz, v => ∃ lo, L b = some lo ∧ lo.box = false ∧ ∃ a n cap, v = .slice a n cap ∧ n * sz = lo.len ∧ cap * sz = lo.size ∧ n ≤ cap ∧ sz ≠ 0 ∧ (a = some ⟨lo.blk, 0, none⟩ ∨ (lo.size = 0 ∧ a = none))
  | .rw b sz off n, v => ∃ lo, L b = some lo ∧ lo.box = false ∧ ∃ a cap, v = .slice a n cap ∧ n ≤ cap ∧ (off + n) * sz ≤ lo.len ∧ sz ≠ 0 ∧ (n = 0 ∨ a = some ⟨lo.blk, off * sz, none⟩)
  | .ptr b off, v => ∃ lo, L b = some lo ∧ lo.box = true ∧ v = .pointer (some ⟨lo.blk, off, none⟩)
  | .eptr b sz j off, v => ∃ lo, L b = some lo ∧ lo.box = false ∧ v = .pointer (some ⟨lo.blk, j * sz + off, none⟩)
  | .fn f cap, v => stabL cap = true ∧ ∃ cs : List Value, v = .func f #[] ⟨cs⟩ ∧ RIs S L cap cs
  | .it b, v => ∃ lo, L b = some lo ∧ lo.box = true ∧ v = .pointer (some ⟨lo.blk, 0, none⟩)
  | .undef, _ => True
def RIs (S : Mem) (L : Locs) : List IV → List Value → Prop
  | [], vs => vs = []
  | x :: l, vs => ∃ v r, vs = v :: r ∧ RI S L x v ∧ RIs S L l r
end

/-! ### Lists -/
section lists
variable {S : Mem} {L : Locs}
theorem RPs_nil {vs : List Value} : RPs S [] vs ↔ vs = [] := by simp [RPs]
theorem RPs_cons {x : PV} {l : List PV} {v : Value} {vs : List Value} : RPs S (x :: l) (v :: vs) ↔ RP S x v ∧ RPs S l vs := by
  simp only [RPs]
  exact ⟨fun ⟨_, _, e, h⟩ => by cases e; exact h, fun h => ⟨_, _, rfl, h⟩⟩
theorem RIs_nil {vs : List Value} : RIs S L [] vs ↔ vs = [] := by simp [RIs]
theorem RIs_cons {x : IV} {l : List IV} {v : Value} {vs : List Value} : RIs S L (x :: l) (v :: vs) ↔ RI S L x v ∧ RIs S L l vs := by
  simp only [RIs]
  exact ⟨fun ⟨_, _, e, h⟩ => by cases e; exact h, fun h => ⟨_, _, rfl, h⟩⟩
theorem RPs.length {l : List PV} {vs : List Value} (h : RPs S l vs) : vs.length = l.length := by
  induction l generalizing vs with
  | nil => rw [RPs_nil] at h; subst h; rfl
  | cons x l ih => obtain ⟨v, r, rfl, _, h2⟩ := h; simp [ih h2]
theorem RIs.length {l : List IV} {vs : List Value} (h : RIs S L l vs) : vs.length = l.length := by
  induction l generalizing vs with
  | nil => rw [RIs_nil] at h; subst h; rfl
  | cons x l ih => obtain ⟨v, r, rfl, _, h2⟩ := h; simp [ih h2]
theorem RIs.get {l : List IV} {vs : List Value} (h : RIs S L l vs) {i : Nat} {x : IV} (hx : l[i]? = some x) : ∃ v, vs[i]? = some v ∧ RI S L x v := by
  induction l generalizing vs i with
  | nil => simp at hx
  | cons y l ih =>
    obtain ⟨v, r, rfl, h1, h2⟩ := h
    cases i with
    | zero => simp at hx; subst hx; exact ⟨v, rfl, h1⟩
    | succ i => simpa using ih h2 (by simpa using hx)
theorem RPs.get {l : List PV} {vs : List Value} (h : RPs S l vs) {i : Nat} {x : PV} (hx : l[i]? = some x) : ∃ v, vs[i]? = some v ∧ RP S x v := by
  induction l generalizing vs i with
  | nil => simp at hx
  | cons y l ih =>
    obtain ⟨v, r, rfl, h1, h2⟩ := h
    cases i with
    | zero => simp at hx; subst hx; exact ⟨v, rfl, h1⟩
    | succ i => simpa using ih h2 (by simpa using hx)
theorem RIs.append {l r : List IV} {vs ws : List Value} (h : RIs S L l vs) (k : RIs S L r ws) : RIs S L (l ++ r) (vs ++ ws) := by
  induction l generalizing vs with
  | nil => rw [RIs_nil] at h; subst h; exact k
  | cons x l ih => obtain ⟨v, t, rfl, h1, h2⟩ := h; exact RIs_cons.2 ⟨h1, ih h2⟩
theorem RPs.append {l r : List PV} {vs ws : List Value} (h : RPs S l vs) (k : RPs S r ws) : RPs S (l ++ r) (vs ++ ws) := by
  induction l generalizing vs with
  | nil => rw [RPs_nil] at h; subst h; exact k
  | cons x l ih => obtain ⟨v, t, rfl, h1, h2⟩ := h; exact RPs_cons.2 ⟨h1, ih h2⟩
theorem RIs.take {l : List IV} {vs : List Value} (h : RIs S L l vs) (n : Nat) : RIs S L (l.take n) (vs.take n) := by
  induction n generalizing l vs with
  | zero => simp [RIs]
  | succ n ih =>
    cases l with
    | nil => rw [RIs_nil] at h; subst h; simp [RIs]
    | cons x l => obtain ⟨v, t, rfl, h1, h2⟩ := h; exact RIs_cons.2 ⟨h1, ih h2⟩
theorem RIs.drop {l : List IV} {vs : List Value} (h : RIs S L l vs) (n : Nat) : RIs S L (l.drop n) (vs.drop n) := by
  induction n generalizing l vs with
  | zero => simpa using h
  | succ n ih =>
    cases l with
    | nil => rw [RIs_nil] at h; subst h; simp [RIs]
    | cons x l => obtain ⟨v, t, rfl, h1, h2⟩ := h; exact ih h2
theorem RPs.take {l : List PV} {vs : List Value} (h : RPs S l vs) (n : Nat) : RPs S (l.take n) (vs.take n) := by
  induction n generalizing l vs with
  | zero => simp [RPs]
  | succ n ih =>
    cases l with
    | nil => rw [RPs_nil] at h; subst h; simp [RPs]
    | cons x l => obtain ⟨v, t, rfl, h1, h2⟩ := h; exact RPs_cons.2 ⟨h1, ih h2⟩
theorem RPs.drop {l : List PV} {vs : List Value} (h : RPs S l vs) (n : Nat) : RPs S (l.drop n) (vs.drop n) := by
  induction n generalizing l vs with
  | zero => simpa using h
  | succ n ih =>
    cases l with
    | nil => rw [RPs_nil] at h; subst h; simp [RPs]
    | cons x l => obtain ⟨v, t, rfl, h1, h2⟩ := h; exact ih h2
theorem RIs.set {l : List IV} {vs : List Value} (h : RIs S L l vs) (i : Nat) {x : IV} {v : Value} (hx : RI S L x v) : RIs S L (l.set i x) (vs.set i v) := by
  induction l generalizing vs i with
  | nil => rw [RIs_nil] at h; subst h; simp [RIs]
  | cons y l ih =>
    obtain ⟨u, t, rfl, h1, h2⟩ := h
    cases i with
    | zero => exact RIs_cons.2 ⟨hx, h2⟩
    | succ i => exact RIs_cons.2 ⟨h1, ih h2 i⟩
theorem RIs_mapP {l : List PV} {vs : List Value} : RIs S L (l.map .p) vs ↔ RPs S l vs := by
  induction l generalizing vs with
  | nil => simp [RIs, RPs]
  | cons x l ih => simp only [List.map_cons, RIs, RPs, ih, RI]
theorem RPs_mapV (l : List Value) : RPs S (l.map .v) l := by
  induction l with
  | nil => simp [RPs]
  | cons x l ih => exact RPs_cons.2 ⟨by simp [RP], ih⟩
theorem RPs_mapV' {l : List Value} {vs : List Value} : RPs S (l.map .v) vs ↔ vs = l := by
  induction l generalizing vs with
  | nil => simp [RPs]
  | cons x l ih =>
    simp only [List.map_cons, RPs, ih, RP]
    constructor
    · rintro ⟨v, r, rfl, rfl, rfl⟩; rfl
    · rintro rfl; exact ⟨_, _, rfl, rfl, rfl⟩
theorem RPs_append {l r : List PV} {vs : List Value} (h : RPs S (l ++ r) vs) : ∃ a b, vs = a ++ b ∧ RPs S l a ∧ RPs S r b := by
  induction l generalizing vs with
  | nil => exact ⟨[], vs, rfl, by simp [RPs], h⟩
  | cons x l ih =>
    obtain ⟨v, t, rfl, h1, h2⟩ := h
    obtain ⟨a, b, rfl, h3, h4⟩ := ih h2
    exact ⟨v :: a, b, rfl, RPs_cons.2 ⟨h1, h3⟩, h4⟩
theorem allV_some {l : List PV} {r : List Value} (h : allV l = some r) : l = r.map .v := by
  induction l generalizing r with
  | nil => simp [allV] at h; subst h; rfl
  | cons x l ih =>
    cases x <;> simp only [allV] at h <;> try (cases h)
    split at h
    · rename_i q hq; cases h; rw [ih hq]; rfl
    · cases h
theorem allP_some {l : List IV} {r : List PV} (h : allP l = some r) : l = r.map .p := by
  induction l generalizing r with
  | nil => simp [allP] at h; subst h; rfl
  | cons x l ih =>
    cases x <;> simp only [allP] at h <;> try (cases h)
    split at h
    · rename_i q hq; cases h; rw [ih hq]; rfl
    · cases h
theorem mkAggP_rel {l : List PV} {cs : List Value} (h : RPs S l cs) : RP S (mkAggP l) (.agg ⟨cs⟩) := by
  unfold mkAggP
  split
  · rename_i r hr; rw [allV_some hr, RPs_mapV'] at h; subst h; simp [RP]
  · exact ⟨cs, rfl, h⟩
theorem mkTupP_rel {l : List PV} {cs : List Value} (h : RPs S l cs) : RP S (mkTupP l) (.tuple ⟨cs⟩) := by
  unfold mkTupP
  split
  · rename_i r hr; rw [allV_some hr, RPs_mapV'] at h; subst h; simp [RP]
  · exact ⟨cs, rfl, h⟩
theorem mkAgg_rel {l : List IV} {cs : List Value} (h : RIs S L l cs) : RI S L (mkAgg l) (.agg ⟨cs⟩) := by
  unfold mkAgg
  split
  · rename_i r hr; rw [allP_some hr, RIs_mapP] at h; exact mkAggP_rel h
  · exact ⟨cs, rfl, h⟩
theorem mkTup_rel {l : List IV} {cs : List Value} (h : RIs S L l cs) : RI S L (mkTup l) (.tuple ⟨cs⟩) := by
  unfold mkTup
  split
  · rename_i r hr; rw [allP_some hr, RIs_mapP] at h; exact mkTupP_rel h
  · exact ⟨cs, rfl, h⟩
theorem cellsP_rel {x : PV} {v : Value} (h : RP S x v) : RPs S (cellsP x) v.cells.toList := by
  cases x with
  | v y =>
    simp only [RP] at h; subst h
    cases v <;> simp only [cellsP, Value.cells] <;> first | exact RPs_mapV _ | simp [RPs, RP]
  | agg l => obtain ⟨cs, rfl, h⟩ := h; exact h
  | tup l => obtain ⟨cs, rfl, h⟩ := h; exact RPs_cons.2 ⟨⟨cs, rfl, h⟩, by simp [RPs]⟩
  | sl t l => obtain ⟨a, cap, rfl, h⟩ := h; exact RPs_cons.2 ⟨⟨a, cap, rfl, h⟩, by simp [RPs]⟩
  | rop l => obtain ⟨a, cap, rfl, h⟩ := h; exact RPs_cons.2 ⟨⟨a, cap, rfl, h⟩, by simp [RPs]⟩
  | err b => obtain ⟨rfl, rfl⟩ | ⟨rfl, t, u, rfl⟩ := h <;> simp [cellsP, Value.cells, RPs, RP, RE]
  | opt t x =>
    have h' := h
    obtain ⟨_, rfl⟩ | ⟨y, b, o, _, rfl, _⟩ := h'
    · exact RPs_cons.2 ⟨h, by simp [RPs]⟩
    · exact RPs_cons.2 ⟨h, by simp [RPs]⟩
theorem cellsI_rel {x : IV} {v : Value} (hx : x ≠ .undef) (h : RI S L x v) : RIs S L (cellsI x) v.cells.toList := by
  cases x with
  | p y => exact RIs_mapP.2 (cellsP_rel h)
  | agg l => obtain ⟨cs, rfl, h⟩ := h; exact h
  | tup l => obtain ⟨cs, rfl, h⟩ := h; exact RIs_cons.2 ⟨⟨cs, rfl, h⟩, by simp [RIs]⟩
  | row b sz => obtain ⟨lo, h1, h2, a, n, cap, rfl, h3⟩ := h; exact RIs_cons.2 ⟨⟨lo, h1, h2, a, n, cap, rfl, h3⟩, by simp [RIs]⟩
  | rw b sz o n => obtain ⟨lo, h1, h2, a, cap, rfl, h3⟩ := h; exact RIs_cons.2 ⟨⟨lo, h1, h2, a, cap, rfl, h3⟩, by simp [RIs]⟩
  | ptr b o => obtain ⟨lo, h1, h2, rfl⟩ := h; exact RIs_cons.2 ⟨⟨lo, h1, h2, rfl⟩, by simp [RIs]⟩
  | eptr b sz j o => obtain ⟨lo, h1, h2, rfl⟩ := h; exact RIs_cons.2 ⟨⟨lo, h1, h2, rfl⟩, by simp [RIs]⟩
  | fn f c => obtain ⟨h1, cs, rfl, h2⟩ := h; exact RIs_cons.2 ⟨⟨h1, cs, rfl, h2⟩, by simp [RIs]⟩
  | it b => obtain ⟨lo, h1, h2, rfl⟩ := h; exact RIs_cons.2 ⟨⟨lo, h1, h2, rfl⟩, by simp [RIs]⟩
  | undef => exact absurd rfl hx
end lists

/-! ### More is known, more blocks are there -/
section mono
variable {S S' : Mem} {L L' : Locs}
theorem RSl.mono {α : Type} {r r' : α → Nat → Nat → Prop} (h : ∀ x b o, r x b o → r' x b o) {sz : Nat} {l : List α} {v : Value} (k : RSl r sz l v) : RSl r' sz l v := by
  obtain ⟨a, cap, rfl, h1, h2⟩ := k
  exact ⟨a, cap, rfl, h1, h2.imp id fun ⟨b, o, e, q⟩ => ⟨b, o, e, fun i x hx => h _ _ _ (q i x hx)⟩⟩
theorem RO.mono {α : Type} {r r' : α → Nat → Nat → Prop} (h : ∀ x b o, r x b o → r' x b o) {x : Option α} {v : Value} (k : RO r x v) : RO r' x v :=
  k.imp id fun ⟨y, b, o, e1, e2, e3⟩ => ⟨y, b, o, e1, e2, h _ _ _ e3⟩
theorem RT.mono (hS : ∀ b o v, S b o v → S' b o v) : ∀ (t : Ty) (x : T t) (b o : Nat), RT S t x b o → RT S' t x b o
  | .int k, x, b, o, h => hS _ _ _ h
  | .u8, x, b, o, h => hS _ _ _ h
  | .bool, x, b, o, h => hS _ _ _ h
  | .str, x, b, o, h => hS _ _ _ h
  | .err, x, b, o, h => by obtain ⟨v, h1, h2⟩ := h; exact ⟨v, hS _ _ _ h1, h2⟩
  | .sl t, l, b, o, h => by obtain ⟨v, h1, h2⟩ := h; exact ⟨v, hS _ _ _ h1, h2.mono (RT.mono hS t)⟩
  | .pair p q, x, b, o, h => ⟨RT.mono hS p _ _ _ h.1, RT.mono hS q _ _ _ h.2⟩
  | .opt t, x, b, o, h => by obtain ⟨v, h1, h2⟩ := h; exact ⟨v, hS _ _ _ h1, h2.mono (RT.mono hS t)⟩
theorem RP_mono_aux (hS : ∀ b o v, S b o v → S' b o v) : (∀ x v, RP S x v → RP S' x v) ∧ (∀ l : List PV, (∀ vs, RPs S l vs → RPs S' l vs) ∧ (∀ b o, RPm S l b o → RPm S' l b o)) := by
  have h : ∀ x : PV, ∀ v, RP S x v → RP S' x v := by
    intro x
    induction x using PV.rec (motive_2 := fun l => (∀ vs, RPs S l vs → RPs S' l vs) ∧ (∀ b o, RPm S l b o → RPm S' l b o)) with
    | v x => intro v h; exact h
    | agg l ih => rintro v ⟨cs, rfl, h⟩; exact ⟨cs, rfl, ih.1 _ h⟩
    | tup l ih => rintro v ⟨cs, rfl, h⟩; exact ⟨cs, rfl, ih.1 _ h⟩
    | sl t l => intro v h; exact RSl.mono (RT.mono hS t) h
    | rop l ih => rintro v ⟨b, o, rfl, h⟩; exact ⟨b, o, rfl, ih.2 _ _ h⟩
    | err b => intro v h; exact h
    | opt t x => intro v h; exact RO.mono (RT.mono hS t) h
    | nil => exact ⟨fun vs h => by simpa [RPs] using h, fun _ _ _ => by simp [RPm]⟩
    | cons x l ih1 ih2 =>
      refine ⟨?_, ?_⟩
      · rintro vs ⟨v, r, rfl, h1, h2⟩; exact ⟨v, r, rfl, ih1 _ h1, ih2.1 _ h2⟩
      · rintro b o ⟨⟨c, h1, h2⟩, h3⟩; exact ⟨⟨c, hS _ _ _ h1, ih1 _ h2⟩, ih2.2 _ _ h3⟩
  refine ⟨h, fun l => ?_⟩
  induction l with
  | nil => exact ⟨fun vs h => by simpa [RPs] using h, fun _ _ _ => by simp [RPm]⟩
  | cons x l ih =>
    refine ⟨?_, ?_⟩
    · rintro vs ⟨v, r, rfl, h1, h2⟩; exact ⟨v, r, rfl, h _ _ h1, ih.1 _ h2⟩
    · rintro b o ⟨⟨c, h1, h2⟩, h3⟩; exact ⟨⟨c, hS _ _ _ h1, h _ _ h2⟩, ih.2 _ _ h3⟩
theorem RP.mono (hS : ∀ b o v, S b o v → S' b o v) {x : PV} {v : Value} (h : RP S x v) : RP S' x v := (RP_mono_aux hS).1 _ _ h
theorem RPs.mono (hS : ∀ b o v, S b o v → S' b o v) {l : List PV} {vs : List Value} (h : RPs S l vs) : RPs S' l vs := ((RP_mono_aux hS).2 l).1 _ h
theorem RPm.mono (hS : ∀ b o v, S b o v → S' b o v) {l : List PV} {b o : Nat} (h : RPm S l b o) : RPm S' l b o := ((RP_mono_aux hS).2 l).2 _ _ h

/-- A change of values and blocks that the relation outlives: k says what a value becomes. -/
theorem RIs_of (k : IV → IV) (h : ∀ x v, RI S L x v → RI S' L' (k x) v) {l : List IV} {vs : List Value} (hl : RIs S L l vs) : RIs S' L' (killL k l) vs := by
  induction l generalizing vs with
  | nil => simpa [killL, RIs] using hl
  | cons x l ih => obtain ⟨v, r, rfl, h1, h2⟩ := hl; exact ⟨v, r, rfl, h _ _ h1, ih h2⟩
theorem RI_mapA (k : IV → IV) (h : ∀ x v, RI S L x v → RI S' L' (k x) v) (x : IV) (v : Value) (hx : RI S L x v) : RI S' L' (mapA k x) v := by
  cases x with
  | agg l => obtain ⟨cs, rfl, h1⟩ := hx; exact ⟨cs, rfl, RIs_of k h h1⟩
  | tup l => trivial
  | _ => exact h _ _ hx
theorem RI_mapI (k : IV → IV) (h : ∀ x v, RI S L x v → RI S' L' (k x) v) (x : IV) (v : Value) (hx : RI S L x v) : RI S' L' (mapI k x) v := by
  cases x with
  | tup l => obtain ⟨cs, rfl, h1⟩ := hx; exact ⟨cs, rfl, RIs_of (mapA k) (RI_mapA k h) h1⟩
  | _ => exact RI_mapA k h _ _ hx
theorem RI_mono_aux (hS : ∀ b o v, S b o v → S' b o v) (hL : ∀ i lo, L i = some lo → L' i = some lo) (x : IV) : ∀ v, RI S L x v → RI S' L' x v := by
  induction x using IV.rec (motive_2 := fun l => ∀ vs, RIs S L l vs → RIs S' L' l vs) with
  | p x => intro v h; exact RP.mono hS h
  | agg l ih => rintro v ⟨cs, rfl, h⟩; exact ⟨cs, rfl, ih _ h⟩
  | tup l ih => rintro v ⟨cs, rfl, h⟩; exact ⟨cs, rfl, ih _ h⟩
  | row b sz => rintro v ⟨lo, h1, h⟩; exact ⟨lo, hL _ _ h1, h⟩
  | rw b sz o n => rintro v ⟨lo, h1, h⟩; exact ⟨lo, hL _ _ h1, h⟩
  | ptr b o => rintro v ⟨lo, h1, h⟩; exact ⟨lo, hL _ _ h1, h⟩
  | eptr b sz j o => rintro v ⟨lo, h1, h⟩; exact ⟨lo, hL _ _ h1, h⟩
  | fn f c ih => rintro v ⟨h1, cs, rfl, h⟩; exact ⟨h1, cs, rfl, ih _ h⟩
  | it b => rintro v ⟨lo, h1, h⟩; exact ⟨lo, hL _ _ h1, h⟩
  | undef => intro v _; trivial
  | nil => rename_i h; simpa [RIs] using h
  | cons x l ih1 ih2 => rename_i h; obtain ⟨v, r, rfl, h1, h2⟩ := h; exact ⟨v, r, rfl, ih1 _ h1, ih2 _ h2⟩
theorem RI.mono (hS : ∀ b o v, S b o v → S' b o v) (hL : ∀ i lo, L i = some lo → L' i = some lo) {x : IV} {v : Value} (h : RI S L x v) : RI S' L' x v := RI_mono_aux hS hL x v h
theorem RIs.mono (hS : ∀ b o v, S b o v → S' b o v) (hL : ∀ i lo, L i = some lo → L' i = some lo) {l : List IV} {vs : List Value} (h : RIs S L l vs) : RIs S' L' l vs := by
  induction l generalizing vs with
  | nil => simpa [RIs] using h
  | cons x l ih => obtain ⟨v, r, rfl, h1, h2⟩ := h; exact ⟨v, r, rfl, h1.mono hS hL, ih h2⟩
/-- Boxes stay: function values stay. -/
theorem RIs_stab (hS : ∀ b o v, S b o v → S' b o v) (hL : ∀ i lo, L i = some lo → lo.box = true → L' i = some lo) {l : List IV} {vs : List Value} (hs : stabL l = true) (h : RIs S L l vs) : RIs S' L' l vs := by
  induction l generalizing vs with
  | nil => simpa [RIs] using h
  | cons x l ih =>
    obtain ⟨v, r, rfl, h1, h2⟩ := h
    cases x <;> simp only [stabL] at hs <;> try (cases hs)
    · exact ⟨v, r, rfl, RP.mono hS h1, ih hs h2⟩
    · obtain ⟨lo, e1, e2, e3⟩ := h1
      exact ⟨v, r, rfl, ⟨lo, hL _ _ e1 e2, e2, e3⟩, ih hs h2⟩
theorem RI_kill {b : Nat} (hb : ∀ lo, L b = some lo → lo.box = false) (hS : ∀ b o v, S b o v → S' b o v) (hL : ∀ i lo, i ≠ b → L i = some lo → L' i = some lo) (x : IV) (v : Value) (h : RI S L x v) : RI S' L' (kill b x) v := by
  have hbox : ∀ i lo, L i = some lo → lo.box = true → L' i = some lo := fun i lo h1 h2 => hL i lo (fun e => by subst e; rw [hb _ h1] at h2; cases h2) h1
  cases x with
  | p x => exact RP.mono hS h
  | ptr c o => obtain ⟨lo, e1, e2, e3⟩ := h; exact ⟨lo, hbox _ _ e1 e2, e2, e3⟩
  | it c => obtain ⟨lo, e1, e2, e3⟩ := h; exact ⟨lo, hbox _ _ e1 e2, e2, e3⟩
  | fn f c => obtain ⟨h1, cs, rfl, h2⟩ := h; exact ⟨h1, cs, rfl, RIs_stab hS hbox h1 h2⟩
  | row c sz =>
    obtain ⟨lo, h1, h⟩ := h
    simp only [kill]
    split
    · trivial
    · rename_i hne; exact ⟨lo, hL _ _ hne h1, h⟩
  | rw c sz o n =>
    obtain ⟨lo, h1, h⟩ := h
    simp only [kill]
    split
    · trivial
    · rename_i hne; exact ⟨lo, hL _ _ hne h1, h⟩
  | eptr c sz j o =>
    obtain ⟨lo, h1, h⟩ := h
    simp only [kill]
    split
    · trivial
    · rename_i hne; exact ⟨lo, hL _ _ hne h1, h⟩
  | _ => trivial
end mono

/-! ### Memory -/
section memory
variable {S : Mem} {L : Locs}
/-- A block's marks are in order. -/
def frOK (w : World) (b : Nat) : Prop := ∀ c t fr, w.heap[b]? = some (.cells c t fr) → fr.1 ≤ fr.2
def thr (w : World) (lo : Lo) : Prop := w.there lo.blk 0 lo.size ∧ (lo.size ≠ 0 → frOK w lo.blk)
theorem frOK_setCells {b' : Nat} (b : Nat) : ∀ (vs : List Value) (o : Nat) (w : World), frOK w b' → frOK (w.setCells b o vs) b'
  | [], _, _, h => h
  | v :: vs, o, w, h => by
    refine frOK_setCells b vs (o + 1) _ fun c t fr hh => ?_
    unfold World.setCell at hh
    simp only [Array.getElem?_modify] at hh
    split at hh
    · cases hb : w.heap[b']? with
      | none => rw [hb] at hh; cases hh
      | some q =>
        rw [hb] at hh
        cases q with
        | cells c' t' fr' => simp at hh; obtain ⟨_, _, rfl⟩ := hh; exact h _ _ _ hb
        | _ => simp at hh
    · exact h _ _ _ hh
/-- A block's cells. -/
def BRc (S : Mem) (L : Locs) (w : World) (lo : Lo) (l : List IV) : Prop :=
  ∃ cs : List Value, cs.length = lo.size ∧ l.length = lo.len ∧ lo.len ≤ lo.size ∧ w.rangeAt lo.blk 0 cs ∧ thr w lo ∧
    (∀ v ∈ cs, v.oneCell' = true) ∧ RIs S L l (cs.take lo.len)
def BR (S : Mem) (L : Locs) (w : World) (lo : Lo) : Blk → Prop
  | .pc l => BRc S L w lo (l.map .p)
  | .gc l => BRc S L w lo l
  | .tc t l => BRc S L w lo ((cellsL t l).map .p)
  | .iter s pos => lo.box = true ∧ lo.size ≠ 0 ∧ w.heap[lo.blk]? = some (.stringIter s pos)
  | .dead => True
structure Inv (S : Mem) (L : Locs) (H : Hp) (w : World) : Prop where
  blk : ∀ b k, H[b]? = some k → k = .dead ∨ ∃ lo, L b = some lo ∧ BR S L w lo k
  out : ∀ b, H.length ≤ b → L b = none
  inj : ∀ i j lo lo', L i = some lo → L j = some lo' → lo.size ≠ 0 → lo'.size ≠ 0 → i ≠ j → lo.blk ≠ lo'.blk
  inh : ∀ i lo, L i = some lo → lo.size ≠ 0 → lo.blk < w.heap.size
  sta : ∀ b o v, S b o v → w.cell? ⟨b, o, none⟩ = some v ∧ v.oneCell' = true ∧ b < w.heap.size ∧ ∀ i lo, L i = some lo → lo.size ≠ 0 → lo.blk ≠ b
/-- The blocks of one's own. -/
def Own (L : Locs) (k : Nat) : Prop := ∃ i lo, L i = some lo ∧ lo.size ≠ 0 ∧ lo.blk = k
/-- All that was there is as it was, but for one's own blocks. -/
structure Kp (O : Nat → Prop) (w w' : World) : Prop where
  os : w'.os = w.os
  tape : w'.tape = w.tape
  output : w'.output = w.output
  size : w.heap.size ≤ w'.heap.size
  block : ∀ k, k < w.heap.size → ¬ O k → w'.heap[k]? = w.heap[k]?
theorem Kp.refl (O : Nat → Prop) (w : World) : Kp O w w := ⟨rfl, rfl, rfl, Nat.le_refl _, fun _ _ _ => rfl⟩
theorem Kp.trans {O O' : Nat → Prop} {a b c : World} (h : Kp O a b) (k : Kp O' b c) (ho : ∀ i, i < a.heap.size → O' i → O i) : Kp O a c :=
  ⟨k.os.trans h.os, k.tape.trans h.tape, k.output.trans h.output, Nat.le_trans h.size k.size, fun i hi hn =>
    (k.block i (Nat.lt_of_lt_of_le hi h.size) (fun q => hn (ho i hi q))).trans (h.block i hi hn)⟩
theorem Kp.mono {O O' : Nat → Prop} {a b : World} (h : Kp O a b) (ho : ∀ i, O i → O' i) : Kp O' a b :=
  ⟨h.os, h.tape, h.output, h.size, fun i hi hn => h.block i hi fun q => hn (ho i q)⟩
theorem Kp.below {w w' : World} (h : Kp (fun _ => False) w w') : Below w.heap.size w w' := ⟨h.os, h.tape, h.output, h.size, fun k hk => h.block k hk id⟩
theorem Kp.cell {O : Nat → Prop} {w w' : World} (h : Kp O w w') {a : Addr} (ha : a.block < w.heap.size) (hn : ¬ O a.block) : w'.cell? a = w.cell? a :=
  World.cell?_of_block (h.block _ ha hn)
theorem Kp.frozen {O : Nat → Prop} {w w' : World} (h : Kp O w w') {a : Addr} (ha : a.block < w.heap.size) (hn : ¬ O a.block) : w'.frozen? a = w.frozen? a :=
  World.frozen?_of_block (h.block _ ha hn)
/-- A block in another world, where it is as it was (or has no cells); more is known. -/
theorem BRc.mono {S' : Mem} {L' : Locs} {w w' : World} {lo : Lo} {l : List IV} (h : BRc S L w lo l)
    (hb : lo.size ≠ 0 → w'.heap[lo.blk]? = w.heap[lo.blk]?) (k : IV → IV) (hk : ∀ x v, RI S L x v → RI S' L' (k x) v) : BRc S' L' w' lo (killL k l) := by
  obtain ⟨cs, h1, h2, h3, h4, h5, h6, h7⟩ := h
  refine ⟨cs, h1, ?_, h3, fun j v hv => ?_, ⟨fun j hj => ?_, fun h0 c t fr hh => h5.2 h0 c t fr (by rw [← hb h0]; exact hh)⟩, h6, RIs_of k hk h7⟩
  · rw [← h2]; clear h2 h7; induction l with
    | nil => rfl
    | cons x l ih => simp [killL, ih]
  · have hne : lo.size ≠ 0 := by have := (List.getElem?_eq_some_iff.1 hv).1; omega
    rw [World.cell?_of_block (hb hne)]; exact h4 j v hv
  · have hne : lo.size ≠ 0 := by omega
    rw [World.cell?_of_block (hb hne), World.frozen?_of_block (hb hne)]; exact h5.1 j hj
/-- Cells that are none. -/
theorem BRc.none (S : Mem) (L : Locs) (w : World) {lo : Lo} (h : lo.size = 0) (h' : lo.len = 0) : BRc S L w lo [] := by
  exact ⟨[], by simp [h], by simp [h'], by omega, (fun j v hv => by simp at hv), ⟨(fun j hj => by omega), fun h9 => absurd h h9⟩, (fun v hv => by cases hv), by simp [RIs]⟩

/-! ### Typed data and cells -/
theorem cellsT_len : ∀ (t : Ty) (x : T t), (cellsT t x).length = sizeTy t
  | .int k, x => rfl
  | .u8, x => rfl
  | .bool, x => rfl
  | .str, x => rfl
  | .err, x => rfl
  | .sl t, x => rfl
  | .pair a b, x => by simp [cellsT, sizeTy, cellsT_len a, cellsT_len b]
  | .opt t, x => rfl
theorem sizeTy_pos : ∀ t : Ty, 0 < sizeTy t
  | .int k => Nat.one_pos
  | .u8 => Nat.one_pos
  | .bool => Nat.one_pos
  | .str => Nat.one_pos
  | .err => Nat.one_pos
  | .sl t => Nat.one_pos
  | .pair a b => Nat.add_pos_left (sizeTy_pos a) _
  | .opt t => Nat.one_pos
theorem cellsL_len (t : Ty) (l : List (T t)) : (cellsL t l).length = l.length * sizeTy t := by
  induction l with
  | nil => simp [cellsL]
  | cons x l ih => simp [cellsL, cellsT_len, ih, Nat.add_mul]; omega
theorem cellsL_append (t : Ty) (l r : List (T t)) : cellsL t (l ++ r) = cellsL t l ++ cellsL t r := by
  induction l with
  | nil => rfl
  | cons x l ih => simp [cellsL, ih]
theorem cellsL_drop (t : Ty) (l : List (T t)) (n : Nat) : cellsL t (l.drop n) = (cellsL t l).drop (n * sizeTy t) := by
  induction l generalizing n with
  | nil => simp [cellsL]
  | cons x l ih =>
    cases n with
    | zero => simp
    | succ n =>
      simp only [List.drop_succ_cons, ih, cellsL, Nat.add_mul, Nat.one_mul]
      rw [Nat.add_comm, ← List.drop_drop]
      congr 1
      rw [← cellsT_len t x]; simp
theorem cellsL_take (t : Ty) (l : List (T t)) (n : Nat) : cellsL t (l.take n) = (cellsL t l).take (n * sizeTy t) := by
  induction l generalizing n with
  | nil => simp [cellsL]
  | cons x l ih =>
    cases n with
    | zero => simp [cellsL]
    | succ n =>
      simp only [List.take_succ_cons, ih, cellsL, Nat.add_mul, Nat.one_mul]
      rw [List.take_append, cellsT_len, List.take_of_length_le (l := cellsT t x) (by rw [cellsT_len]; omega)]
      congr 2
      omega
theorem cellsL_get {t : Ty} {l : List (T t)} {j : Nat} {x : T t} (h : l[j]? = some x) : ((cellsL t l).drop (j * sizeTy t)).take (sizeTy t) = cellsT t x := by
  rw [← cellsL_drop]
  obtain ⟨hj, rfl⟩ := List.getElem?_eq_some_iff.1 h
  rw [List.drop_eq_getElem_cons hj]
  simp only [cellsL]
  rw [← cellsT_len t l[j]]; simp
theorem cellsL_set (t : Ty) (l : List (T t)) (j : Nat) (x : T t) : cellsL t (l.set j x) = over (cellsL t l) (j * sizeTy t) (cellsT t x) := by
  have base : ∀ (xs a b : List PV), a.length = xs.length → over (a ++ b) 0 xs = xs ++ b := by
    intro xs
    have gen : ∀ (xs a b p : List PV), a.length = xs.length → over (p ++ (a ++ b)) p.length xs = p ++ (xs ++ b) := by
      intro xs
      induction xs with
      | nil => intro a b p h; have : a = [] := List.eq_nil_of_length_eq_zero h; subst this; rfl
      | cons y ys ih =>
        intro a b p h
        cases a with
        | nil => simp at h
        | cons c a =>
          simp only [over]
          have e : (p ++ (c :: a ++ b)).set p.length y = (p ++ [y]) ++ (a ++ b) := by simp
          rw [e]
          have := ih a b (p ++ [y]) (by simpa using h)
          simp only [List.length_append, List.length_cons, List.length_nil] at this
          rw [this]; simp
    intro a b h
    simpa using gen xs a b [] h
  have gen0 : ∀ (xs p c : List PV) (m : Nat), over (p ++ c) (p.length + m) xs = p ++ over c m xs := by
    intro xs
    induction xs with
    | nil => intro p c m; rfl
    | cons y ys ih =>
      intro p c m
      simp only [over]
      rw [List.set_append_right _ _ (by omega), Nat.add_sub_cancel_left, Nat.add_assoc, ih]
  induction l generalizing j with
  | nil =>
    have nilo : ∀ (xs : List PV) (m : Nat), over ([] : List PV) m xs = [] := by
      intro xs; induction xs with
      | nil => intro m; rfl
      | cons y ys ih => intro m; simp [over, ih]
    simp [cellsL, nilo]
  | cons y l ih =>
    cases j with
    | zero =>
      simp only [List.set_cons_zero, cellsL, Nat.zero_mul]
      rw [base _ _ _ (by rw [cellsT_len, cellsT_len])]
    | succ j =>
      simp only [List.set_cons_succ, cellsL, ih]
      have := gen0 (cellsT t x) (cellsT t y) (cellsL t l) (j * sizeTy t)
      rw [cellsT_len] at this
      rw [← this, Nat.add_mul, Nat.one_mul, Nat.add_comm]
theorem RPm_append {l r : List PV} {b o : Nat} : RPm S (l ++ r) b o ↔ RPm S l b o ∧ RPm S r b (o + l.length) := by
  induction l generalizing o with
  | nil => simp [RPm]
  | cons x l ih =>
    simp only [List.cons_append, RPm, ih, List.length_cons]
    rw [show o + (l.length + 1) = o + 1 + l.length from by omega, and_assoc]
theorem RT_cells : ∀ (t : Ty) (x : T t) (b o : Nat), RT S t x b o ↔ RPm S (cellsT t x) b o
  | .int k, x, b, o => by simp [RT, cellsT, RPm, RP]
  | .u8, x, b, o => by simp [RT, cellsT, RPm, RP]
  | .bool, x, b, o => by simp [RT, cellsT, RPm, RP]
  | .str, x, b, o => by simp [RT, cellsT, RPm, RP]
  | .err, x, b, o => by simp [RT, cellsT, RPm, RP]
  | .sl t, x, b, o => by simp [RT, cellsT, RPm, RP]
  | .pair p q, x, b, o => by simp only [RT, cellsT]; rw [RPm_append, RT_cells p, RT_cells q, cellsT_len]
  | .opt t, x, b, o => by simp [RT, cellsT, RPm, RP]
theorem RTs_cells (t : Ty) (l : List (T t)) (b o : Nat) : (∀ i x, l[i]? = some x → RT S t x b (o + i * sizeTy t)) ↔ RPm S (cellsL t l) b o := by
  induction l generalizing o with
  | nil => simp [cellsL, RPm]
  | cons y l ih =>
    simp only [cellsL]
    rw [RPm_append, ← RT_cells, cellsT_len, ← ih]
    constructor
    · intro h
      refine ⟨by simpa using h 0 y rfl, fun i x hx => ?_⟩
      have := h (i + 1) x (by simpa using hx)
      rwa [Nat.add_mul, Nat.one_mul, show o + (i * sizeTy t + sizeTy t) = o + sizeTy t + i * sizeTy t from by omega] at this
    · rintro ⟨h1, h2⟩ i x hx
      cases i with
      | zero => simp at hx; subst hx; simpa using h1
      | succ i =>
        have := h2 i x (by simpa using hx)
        rwa [Nat.add_mul, Nat.one_mul, show o + (i * sizeTy t + sizeTy t) = o + sizeTy t + i * sizeTy t from by omega]
theorem RP_sl {t : Ty} {l : List (T t)} {v : Value} : RP S (.sl t l) v ↔ ∃ a cap, v = .slice a l.length cap ∧ l.length ≤ cap ∧ (l = [] ∨ ∃ b o, a = some ⟨b, o, none⟩ ∧ RPm S (cellsL t l) b o) := by
  simp only [RP, RSl, RTs_cells]
theorem RP_nil (t : Ty) (a : Option Addr) (cap : Nat) : RP S (.sl t []) (.slice a 0 cap) := RP_sl.2 ⟨a, cap, rfl, Nat.zero_le _, .inl rfl⟩
end memory
end Go.Proofs.YtfaofikhabccoaaGreatDoor.Jv
