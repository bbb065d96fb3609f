/- How the ideal machine's blocks and the model's memory change together; conditions: none. -/
import Derived.Test.YtfaofikhabccoaaGreatDoorJvRel
namespace Go.Proofs.YtfaofikhabccoaaGreatDoor.Jv
open Go Go.RowKit
set_option linter.unusedVariables false
set_option linter.unusedSimpArgs false

/-- From one state to a later one: the blocks below n stay known. -/
structure Ext (n : Nat) (S : Mem) (L : Locs) (w : World) (S' : Mem) (L' : Locs) (H' : Hp) (w' : World) : Prop where
  inv : Inv S' L' H' w'
  kp : Kp (Own L) w w'
  mem : ∀ b o v, S b o v → S' b o v
  new : ∀ b o v, S' b o v → S b o v ∨ Own L b ∨ w.heap.size ≤ b
  own : ∀ i lo, L' i = some lo → lo.size ≠ 0 → Own L lo.blk ∨ w.heap.size ≤ lo.blk
  box : ∀ i lo, i < n → L i = some lo → lo.box = true → L' i = some lo
  len : n ≤ H'.length
theorem Ext.refl {S : Mem} {L : Locs} {H : Hp} {w : World} (h : Inv S L H w) {n : Nat} (hn : n ≤ H.length) : Ext n S L w S L H w :=
  ⟨h, Kp.refl _ _, fun _ _ _ h => h, fun _ _ _ h => .inl h, fun _ _ h h0 => .inl ⟨_, _, h, h0, rfl⟩, fun _ _ _ h _ => h, hn⟩
theorem Ext.trans {n m : Nat} {S S1 S2 : Mem} {L L1 L2 : Locs} {H1 H2 : Hp} {w w1 w2 : World} (a : Ext n S L w S1 L1 H1 w1) (b : Ext m S1 L1 w1 S2 L2 H2 w2) (hm : n ≤ m) : Ext n S L w S2 L2 H2 w2 where
  inv := b.inv
  kp := a.kp.trans b.kp fun i hi ⟨j, lo, h1, h0, h2⟩ => by
    rcases a.own j lo h1 h0 with h | h
    · rw [h2] at h; exact h
    · omega
  mem := fun _ _ _ h => b.mem _ _ _ (a.mem _ _ _ h)
  new := fun x o v h => by
    rcases b.new _ _ _ h with h | ⟨j, lo, h1, h0, h2⟩ | h
    · exact a.new _ _ _ h
    · rcases a.own j lo h1 h0 with h3 | h3
      · rw [h2] at h3; exact .inr (.inl h3)
      · exact .inr (.inr (by omega))
    · exact .inr (.inr (Nat.le_trans a.kp.size h))
  own := fun i lo h h0 => by
    rcases b.own i lo h h0 with ⟨j, lo', h1, h9, h2⟩ | h
    · rcases a.own j lo' h1 h9 with h3 | h3
      · rw [h2] at h3; exact .inl h3
      · exact .inr (by omega)
    · exact .inr (Nat.le_trans a.kp.size h)
  box := fun i lo hi h hb => b.box i lo (by omega) (a.box i lo hi h hb) hb
  len := Nat.le_trans hm b.len
theorem Ext.weaken {n m : Nat} {S S1 : Mem} {L L1 : Locs} {H1 : Hp} {w w1 : World} (a : Ext n S L w S1 L1 H1 w1) (h : m ≤ n) : Ext m S L w S1 L1 H1 w1 :=
  { a with box := fun i lo hi => a.box i lo (by omega), len := Nat.le_trans h a.len }

theorem killL_map {k : IV → IV} (hk : ∀ x : PV, k (.p x) = .p x) (l : List PV) : killL k (l.map .p) = l.map .p := by
  induction l with
  | nil => rfl
  | cons x l ih => simp [killL, hk, ih]
theorem killL_id (l : List IV) : killL id l = l := by
  induction l with
  | nil => rfl
  | cons x l ih => simp [killL, ih]
theorem length_killL (k : IV → IV) (l : List IV) : (killL k l).length = l.length := by
  induction l with
  | nil => rfl
  | cons x l ih => simp [killL, ih]
theorem getElem?_mapH (k : IV → IV) (H : Hp) (i : Nat) : (mapH k H)[i]? = (H[i]?).map (mapB k) := by
  induction H generalizing i with
  | nil => simp [mapH]
  | cons x H ih => cases i <;> simp [mapH, ih]
theorem length_mapH (k : IV → IV) (H : Hp) : (mapH k H).length = H.length := by
  induction H with
  | nil => rfl
  | cons x H ih => simp [mapH, ih]

/-- A block in a later world: as it was there, its handles changed by k. -/
theorem BR.mono {S S' : Mem} {L L' : Locs} {w w' : World} {lo : Lo} (hS : ∀ b o v, S b o v → S' b o v) (hb : lo.size ≠ 0 → w'.heap[lo.blk]? = w.heap[lo.blk]?)
    (hL : ∀ i lo, L i = some lo → L' i = some lo) {k : Blk} (h : BR S L w lo k) : BR S' L' w' lo k := by
  cases k with
  | pc l => simpa [BR, killL_id] using BRc.mono h hb id fun x v h => RI.mono hS hL h
  | gc l => simpa [BR, killL_id] using BRc.mono h hb id fun x v h => RI.mono hS hL h
  | tc t l => simpa [BR, killL_id] using BRc.mono h hb id fun x v h => RI.mono hS hL h
  | iter s pos => exact ⟨h.1, h.2.1, by rw [hb h.2.1]; exact h.2.2⟩
  | dead => trivial
theorem mapI_p (k : IV → IV) (hk : ∀ x : PV, k (.p x) = .p x) (x : PV) : mapI k (.p x) = .p x := hk x
theorem BR.mapped {S S' : Mem} {L L' : Locs} {w w' : World} {lo : Lo} {k : IV → IV} (hp : ∀ x : PV, k (.p x) = .p x) (hb : lo.size ≠ 0 → w'.heap[lo.blk]? = w.heap[lo.blk]?)
    (hk : ∀ x v, RI S L x v → RI S' L' (k x) v) {q : Blk} (h : BR S L w lo q) : BR S' L' w' lo (mapB k q) := by
  cases q with
  | pc l =>
    have := BRc.mono h hb (mapI k) (RI_mapI k hk)
    rw [killL_map (mapI_p k hp)] at this
    exact this
  | gc l => exact BRc.mono h hb (mapI k) (RI_mapI k hk)
  | tc t l =>
    have := BRc.mono h hb (mapI k) (RI_mapI k hk)
    rw [killL_map (mapI_p k hp)] at this
    exact this
  | iter s pos => exact ⟨h.1, h.2.1, by rw [hb h.2.1]; exact h.2.2⟩
  | dead => trivial

/-- A world with one block more. -/
structure Grew (w w' : World) (o : Obj) : Prop where
  heap : w'.heap = w.heap.push o
  os : w'.os = w.os
  tape : w'.tape = w.tape
  output : w'.output = w.output
theorem Grew.alloc (w : World) (o : Obj) : Grew w (w.alloc o) o := ⟨rfl, rfl, rfl, rfl⟩
theorem Grew.drew (w : World) (o : Obj) : Grew w (w.drew.alloc o) o := ⟨rfl, rfl, rfl, rfl⟩
theorem Grew.old {w w' : World} {o : Obj} (h : Grew w w' o) {k : Nat} (hk : k < w.heap.size) : w'.heap[k]? = w.heap[k]? := by
  rw [h.heap, Array.getElem?_push, if_neg (by omega)]
theorem Grew.at {w w' : World} {o : Obj} (h : Grew w w' o) : w'.heap[w.heap.size]? = some o := by
  rw [h.heap, Array.getElem?_push, if_pos rfl]
theorem Grew.size {w w' : World} {o : Obj} (h : Grew w w' o) : w'.heap.size = w.heap.size + 1 := by rw [h.heap]; simp
theorem Grew.kp {w w' : World} {o : Obj} (h : Grew w w' o) (O : Nat → Prop) : Kp O w w' :=
  ⟨h.os, h.tape, h.output, by rw [h.size]; omega, fun k hk _ => h.old hk⟩

def addL (L : Locs) (n : Nat) (lo : Lo) : Locs := fun i => if i = n then some lo else L i
theorem addL_old {L : Locs} {n : Nat} {lo : Lo} (hn : L n = none) (i : Nat) (lo' : Lo) (h : L i = some lo') : addL L n lo i = some lo' := by
  unfold addL
  split
  · rename_i e; subst e; rw [hn] at h; cases h
  · exact h
/-- A new block of one's own. -/
theorem Ext.newBlk {S : Mem} {L : Locs} {H : Hp} {w w' : World} {o : Obj} {lo : Lo} {k : Blk} (hi : Inv S L H w) (hg : Grew w w' o) (hlo : lo.blk = w.heap.size)
    (hbr : ∀ L', (∀ i lo', L i = some lo' → L' i = some lo') → BR S L' w' lo k) : Ext H.length S L w S (addL L H.length lo) (H ++ [k]) w' := by
  have hn : L H.length = none := hi.out _ (Nat.le_refl _)
  have hold := addL_old (lo := lo) hn
  refine ⟨⟨?_, ?_, ?_, ?_, ?_⟩, hg.kp _, fun _ _ _ h => h, fun _ _ _ h => .inl h, ?_, fun i lo' _ h _ => hold i lo' h, by simp⟩
  · intro b q hq
    rw [List.getElem?_append] at hq
    split at hq
    · rcases hi.blk b q hq with h | ⟨lo', h1, h2⟩
      · exact .inl h
      · exact .inr ⟨lo', hold _ _ h1, h2.mono (fun _ _ _ h => h) (fun h0 => hg.old (hi.inh _ _ h1 h0)) hold⟩
    · rename_i hlt
      have hb : b = H.length := by
        have := (List.getElem?_eq_some_iff.1 hq).1
        simp at this
        omega
      subst hb
      simp at hq
      subst hq
      exact .inr ⟨lo, by simp [addL], hbr _ hold⟩
  · intro b hb
    simp at hb
    unfold addL
    rw [if_neg (by omega)]
    exact hi.out b (by omega)
  · intro i j a b h1 h2 ha hb hij
    unfold addL at h1 h2
    split at h1 <;> split at h2
    · omega
    · cases h1; have := hi.inh _ _ h2 hb; omega
    · cases h2; have := hi.inh _ _ h1 ha; omega
    · exact hi.inj i j a b h1 h2 ha hb hij
  · intro i a h1 h0
    unfold addL at h1
    rw [hg.size]
    split at h1
    · cases h1; omega
    · have := hi.inh _ _ h1 h0; omega
  · intro b o v hs
    obtain ⟨h1, h2, h3, h4⟩ := hi.sta b o v hs
    refine ⟨by rw [World.cell?_of_block (hg.old h3)]; exact h1, h2, by rw [hg.size]; omega, ?_⟩
    intro i a h h0
    unfold addL at h
    split at h
    · cases h; omega
    · exact h4 i a h h0
  · intro i a h h0
    unfold addL at h
    split at h
    · cases h; exact .inr (by omega)
    · exact .inl ⟨i, a, h, h0, rfl⟩
/-- A new row of nothing. -/
def loNil : Lo := ⟨0, 0, 0, false⟩
theorem Ext.newNil {S : Mem} {L : Locs} {H : Hp} {w : World} {k : Blk} (hi : Inv S L H w) (hbr : ∀ L', BR S L' w loNil k) : Ext H.length S L w S (addL L H.length loNil) (H ++ [k]) w := by
  have hn : L H.length = none := hi.out _ (Nat.le_refl _)
  have hold := addL_old (lo := loNil) hn
  refine ⟨⟨?_, ?_, ?_, ?_, ?_⟩, Kp.refl _ _, fun _ _ _ h => h, fun _ _ _ h => .inl h, ?_, fun i lo' _ h _ => hold i lo' h, by simp⟩
  · intro b q hq
    rw [List.getElem?_append] at hq
    split at hq
    · rcases hi.blk b q hq with h | ⟨lo', h1, h2⟩
      · exact .inl h
      · exact .inr ⟨lo', hold _ _ h1, h2.mono (fun _ _ _ h => h) (fun _ => rfl) hold⟩
    · have hb : b = H.length := by
        have := (List.getElem?_eq_some_iff.1 hq).1
        simp at this
        omega
      subst hb
      simp at hq
      subst hq
      exact .inr ⟨loNil, by simp [addL], hbr _⟩
  · intro b hb
    simp at hb
    unfold addL
    rw [if_neg (by omega)]
    exact hi.out b (by omega)
  · intro i j a b h1 h2 ha hb hij
    unfold addL at h1 h2
    split at h1
    · cases h1; exact absurd rfl ha
    · split at h2
      · cases h2; exact absurd rfl hb
      · exact hi.inj i j a b h1 h2 ha hb hij
  · intro i a h1 h0
    unfold addL at h1
    split at h1
    · cases h1; exact absurd rfl h0
    · exact hi.inh _ _ h1 h0
  · intro b o v hs
    obtain ⟨h1, h2, h3, h4⟩ := hi.sta b o v hs
    refine ⟨h1, h2, h3, ?_⟩
    intro i a h h0
    unfold addL at h
    split at h
    · cases h; exact absurd rfl h0
    · exact h4 i a h h0
  · intro i a h h0
    unfold addL at h
    split at h
    · cases h; exact absurd rfl h0
    · exact .inl ⟨i, a, h, h0, rfl⟩

/-- A block is written: it lies where it lay, or in new memory; its handles are forgotten. -/
theorem Ext.upd {S : Mem} {L : Locs} {H : Hp} {w w' : World} {b : Nat} {lo lo' : Lo} {k : Blk} (hi : Inv S L H w) (hl : L b = some lo) (hb0 : lo.box = false)
    (hos : w'.os = w.os) (htape : w'.tape = w.tape) (hout : w'.output = w.output) (hsz : w.heap.size ≤ w'.heap.size)
    (hw : ∀ q, q < w.heap.size → (lo.size ≠ 0 → q ≠ lo.blk) → w'.heap[q]? = w.heap[q]?) (hblk : (lo.size ≠ 0 ∧ lo'.blk = lo.blk) ∨ lo'.size = 0 ∨ w.heap.size ≤ lo'.blk) (hin : lo'.size ≠ 0 → lo'.blk < w'.heap.size) (hlen : b < H.length)
    (hbr : ∀ L', (∀ i a, i ≠ b → L i = some a → L' i = some a) → BR S L' w' lo' (mapB (kill b) k)) :
    Ext H.length S L w S (addL L b lo') (mapH (kill b) (H.set b k)) w' := by
  have hbox : ∀ a, L b = some a → a.box = false := fun a h => by rw [hl] at h; cases h; exact hb0
  have hold : ∀ i a, i ≠ b → L i = some a → addL L b lo' i = some a := fun i a h h1 => by unfold addL; rw [if_neg h]; exact h1
  have hne : ∀ i a, i ≠ b → L i = some a → a.size ≠ 0 → (lo.size ≠ 0 → a.blk ≠ lo.blk) ∧ (lo'.size ≠ 0 → a.blk ≠ lo'.blk) := fun i a h h1 ha => by
    have h3 := hi.inh i a h1 ha
    have h2 : lo.size ≠ 0 → a.blk ≠ lo.blk := fun h9 => hi.inj i b a lo h1 hl ha h9 h
    refine ⟨h2, fun h9 => ?_⟩
    rcases hblk with ⟨h8, e⟩ | e | e
    · rw [e]; exact h2 h8
    · exact absurd e h9
    · omega
  refine ⟨⟨?_, ?_, ?_, ?_, ?_⟩, ⟨hos, htape, hout, hsz, fun q hq hn => hw q hq fun h0 e => hn ⟨b, lo, hl, h0, e.symm⟩⟩, fun _ _ _ h => h, fun _ _ _ h => .inl h, ?_, ?_, by simp [length_mapH]⟩
  · intro c q hq
    rw [getElem?_mapH] at hq
    by_cases hc : c = b
    · subst hc
      rw [List.getElem?_set_self hlen] at hq
      cases hq
      exact .inr ⟨lo', by simp [addL], hbr _ hold⟩
    · rw [List.getElem?_set_ne (fun e => hc e.symm)] at hq
      cases hH : H[c]? with
      | none => rw [hH] at hq; cases hq
      | some k0 =>
        rw [hH] at hq
        cases hq
        rcases hi.blk c k0 hH with rfl | ⟨a, h1, h2⟩
        · exact .inl rfl
        · exact .inr ⟨a, hold _ _ hc h1, h2.mapped (fun _ => rfl) (fun h0 => hw _ (hi.inh _ _ h1 h0) (hne _ _ hc h1 h0).1) (RI_kill hbox (fun _ _ _ h => h) hold)⟩
  · intro c hc
    simp [length_mapH] at hc
    unfold addL
    rw [if_neg (by omega)]
    exact hi.out c hc
  · intro i j a c h1 h2 ha hc hij
    unfold addL at h1 h2
    split at h1 <;> split at h2
    · omega
    · rename_i e _; cases h1; exact fun q => (hne j c (by omega) h2 hc).2 ha q.symm
    · rename_i e _; cases h2; exact (hne i a (by omega) h1 ha).2 hc
    · exact hi.inj i j a c h1 h2 ha hc hij
  · intro i a h1 h0
    unfold addL at h1
    split at h1
    · cases h1; exact hin h0
    · have := hi.inh _ _ h1 h0; omega
  · intro c o v hs
    obtain ⟨h1, h2, h3, h4⟩ := hi.sta c o v hs
    have hc : lo.size ≠ 0 → c ≠ lo.blk := fun h0 e => h4 b lo hl h0 e.symm
    refine ⟨by rw [World.cell?_of_block (hw c h3 hc)]; exact h1, h2, by omega, ?_⟩
    intro i a h h0
    unfold addL at h
    split at h
    · cases h
      rcases hblk with ⟨h8, e⟩ | e | e
      · rw [e]; exact fun q => hc h8 q.symm
      · exact absurd e h0
      · omega
    · exact h4 i a h h0
  · intro i a h h0
    unfold addL at h
    split at h
    · cases h
      rcases hblk with ⟨h8, e⟩ | e | e
      · exact .inl ⟨b, lo, hl, h8, e.symm⟩
      · exact absurd e h0
      · exact .inr e
    · exact .inl ⟨i, a, h, h0, rfl⟩
  · intro i a _ h h1
    exact hold i a (fun e => by subst e; rw [hbox _ h] at h1; cases h1) h

/-- A block is written in place: all handles stay. -/
theorem Ext.put {S : Mem} {L : Locs} {H : Hp} {w w' : World} {b : Nat} {lo : Lo} {k : Blk} (hi : Inv S L H w) (hl : L b = some lo) (h0 : lo.size ≠ 0)
    (hos : w'.os = w.os) (htape : w'.tape = w.tape) (hout : w'.output = w.output) (hsz : w'.heap.size = w.heap.size)
    (hw : ∀ q, q ≠ lo.blk → w'.heap[q]? = w.heap[q]?) (hlen : b < H.length) (hbr : BR S L w' lo k) :
    Ext H.length S L w S L (H.set b k) w' := by
  refine ⟨⟨?_, ?_, hi.inj, fun i a h h9 => by rw [hsz]; exact hi.inh i a h h9, ?_⟩, ⟨hos, htape, hout, by omega, fun q hq hn => hw q fun e => hn ⟨b, lo, hl, h0, e.symm⟩⟩, fun _ _ _ h => h, fun _ _ _ h => .inl h,
    fun i a h h9 => .inl ⟨i, a, h, h9, rfl⟩, fun _ _ _ h _ => h, by simp⟩
  · intro c q hq
    by_cases hc : c = b
    · subst hc
      rw [List.getElem?_set_self hlen] at hq
      cases hq
      exact .inr ⟨lo, hl, hbr⟩
    · rw [List.getElem?_set_ne (fun e => hc e.symm)] at hq
      rcases hi.blk c q hq with rfl | ⟨a, h1, h2⟩
      · exact .inl rfl
      · exact .inr ⟨a, h1, h2.mono (fun _ _ _ h => h) (fun h9 => hw _ (hi.inj c b a lo h1 hl h9 h0 hc)) (fun _ _ h => h)⟩
  · intro c hc
    simp at hc
    exact hi.out c hc
  · intro c o v hs
    obtain ⟨h1, h2, h3, h4⟩ := hi.sta c o v hs
    have hc : c ≠ lo.blk := fun e => h4 b lo hl h0 e.symm
    exact ⟨by rw [World.cell?_of_block (hw c hc)]; exact h1, h2, by omega, h4⟩

/-! ### Stores -/
theorem over_length {α : Type} (l : List α) (off : Nat) (xs : List α) : (over l off xs).length = l.length := by
  induction xs generalizing l off with
  | nil => rfl
  | cons x xs ih => simp [over, ih]
theorem over_get {α : Type} (l : List α) (off : Nat) (xs : List α) (h : off + xs.length ≤ l.length) (j : Nat) :
    (over l off xs)[j]? = if off ≤ j ∧ j < off + xs.length then xs[j - off]? else l[j]? := by
  induction xs generalizing l off with
  | nil => simp [over]; intro h1 h2; omega
  | cons x xs ih =>
    simp only [List.length_cons] at h
    rw [over, ih _ _ (by simp; omega)]
    simp only [List.length_cons]
    by_cases h1 : off + 1 ≤ j ∧ j < off + 1 + xs.length
    · rw [if_pos h1, if_pos (by omega), show j - off = (j - (off + 1)) + 1 from by omega, List.getElem?_cons_succ]
    · rw [if_neg h1]
      by_cases h2 : j = off
      · subst h2; rw [if_pos (by omega), List.getElem?_set_self (by omega)]; simp
      · rw [if_neg (by omega), List.getElem?_set_ne (by omega)]
theorem over_map {α β : Type} (f : α → β) (l : List α) (off : Nat) (xs : List α) : (over l off xs).map f = over (l.map f) off (xs.map f) := by
  induction xs generalizing l off with
  | nil => rfl
  | cons x xs ih => simp [over, ih, List.map_set]
theorem RIs_over {S : Mem} {L : Locs} {l : List IV} {vs : List Value} {xs : List IV} {us : List Value} (off : Nat) (h : RIs S L l vs) (k : RIs S L xs us) : RIs S L (over l off xs) (over vs off us) := by
  induction xs generalizing l vs off us with
  | nil => rw [RIs_nil] at k; subst k; exact h
  | cons x xs ih => obtain ⟨u, r, rfl, h1, h2⟩ := k; exact ih _ (h.set off h1) h2
theorem over_append {α : Type} (a b : List α) (off : Nat) (xs : List α) (h : off + xs.length ≤ a.length) : over (a ++ b) off xs = over a off xs ++ b := by
  induction xs generalizing a off with
  | nil => rfl
  | cons x xs ih =>
    simp only [List.length_cons] at h
    rw [over, over, List.set_append_left _ _ (by omega), ih _ _ (by rw [List.length_set]; omega)]
theorem over_take {α : Type} (l : List α) (n off : Nat) (xs : List α) (h : off + xs.length ≤ n) (hn : n ≤ l.length) : (over l off xs).take n = over (l.take n) off xs := by
  have e : l = l.take n ++ l.drop n := (List.take_append_drop n l).symm
  have h1 : (l.take n).length = n := by simp; omega
  conv => lhs; rw [e, over_append _ _ _ _ (by omega)]
  rw [List.take_left' (by rw [over_length, h1])]
theorem World.os_setCells (b : Nat) : ∀ (vs : List Value) (o : Nat) (w : World), (w.setCells b o vs).os = w.os ∧ (w.setCells b o vs).tape = w.tape ∧ (w.setCells b o vs).output = w.output ∧ (w.setCells b o vs).heap.size = w.heap.size ∧ ∀ q, q ≠ b → (w.setCells b o vs).heap[q]? = w.heap[q]?
  | [], _, w => ⟨rfl, rfl, rfl, rfl, fun _ _ => rfl⟩
  | v :: vs, o, w => by
    obtain ⟨h1, h2, h3, h4, h5⟩ := World.os_setCells b vs (o + 1) (w.setCell ⟨b, o, none⟩ v)
    refine ⟨h1, h2, h3, ?_, fun q hq => ?_⟩
    · rw [World.setCells, h4]; simp [World.setCell]
    · rw [World.setCells, h5 q hq]; exact Below.heap_setCell _ _ _ _ hq
theorem rangeAt_over {w : World} {b : Nat} {cs : List Value} (hr : w.rangeAt b 0 cs) (off : Nat) (vs : List Value) (h : off + vs.length ≤ cs.length) : (w.setCells b off vs).rangeAt b 0 (over cs off vs) := by
  intro j v hv
  rw [over_get _ _ _ h] at hv
  rw [Nat.zero_add]
  split at hv
  · rename_i hj
    have := World.cell?_setCells_in b vs off w (fun i hi => by
      have : off + i < cs.length := by omega
      have := hr (off + i) (cs[off + i]) (by simp [this])
      rw [Nat.zero_add] at this
      rw [this]; rfl) (j - off) (by omega)
    rw [show off + (j - off) = j from by omega] at this
    rw [this, ← hv]
    rw [List.getElem?_eq_getElem (by omega)]
  · rename_i hj
    rw [World.cell?_setCells_out b vs off w ⟨b, j, none⟩ (fun _ _ => by simp only; omega)]
    have := hr j v hv
    rwa [Nat.zero_add] at this
end Go.Proofs.YtfaofikhabccoaaGreatDoor.Jv
