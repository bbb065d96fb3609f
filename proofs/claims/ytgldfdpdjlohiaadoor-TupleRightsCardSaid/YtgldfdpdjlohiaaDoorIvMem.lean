/- How the ideal machine's blocks and the model's memory change together; conditions: none. -/
import Derived.Test.YtgldfdpdjlohiaaDoorIvRel
namespace Go.Proofs.YtgldfdpdjlohiaaDoor.Iv
open Go Go.RowKit

/-- From one state to a later one: the blocks below n stay known. -/
structure Ext (n : Nat) (S : Mem) (L : Locs) (w : World) (S' : Mem) (L' : Locs) (H' : Hp) (w' : World) : Prop where
  inv : Inv S' L' H' w'
  kp : Kp (Own L) w w'
  mem : ∀ b o v, S b o v → S' b o v
  new : ∀ b o v, S' b o v → S b o v ∨ w.heap.size ≤ b
  own : ∀ i lo, L' i = some lo → Own L lo.blk ∨ w.heap.size ≤ lo.blk
  box : ∀ i lo, i < n → L i = some lo → lo.box = true → L' i = some lo
  len : n ≤ H'.length
theorem Ext.refl {S : Mem} {L : Locs} {H : Hp} {w : World} (h : Inv S L H w) {n : Nat} (hn : n ≤ H.length) : Ext n S L w S L H w :=
  ⟨h, Kp.refl _ _, fun _ _ _ h => h, fun _ _ _ h => .inl h, fun _ _ h => .inl ⟨_, _, h, rfl⟩, fun _ _ _ h _ => h, hn⟩
theorem Ext.trans {n m : Nat} {S S1 S2 : Mem} {L L1 L2 : Locs} {H1 H2 : Hp} {w w1 w2 : World} (a : Ext n S L w S1 L1 H1 w1) (b : Ext m S1 L1 w1 S2 L2 H2 w2) (hm : n ≤ m) : Ext n S L w S2 L2 H2 w2 where
  inv := b.inv
  kp := a.kp.trans b.kp fun i hi ⟨j, lo, h1, h2⟩ => by
    rcases a.own j lo h1 with h | h
    · rw [h2] at h; exact h
    · omega
  mem := fun _ _ _ h => b.mem _ _ _ (a.mem _ _ _ h)
  new := fun x o v h => by
    rcases b.new _ _ _ h with h | h
    · exact a.new _ _ _ h
    · exact .inr (Nat.le_trans a.kp.size h)
  own := fun i lo h => by
    rcases b.own i lo h with ⟨j, lo', h1, h2⟩ | h
    · rcases a.own j lo' h1 with h3 | h3
      · rw [h2] at h3; exact .inl h3
      · exact .inr (by omega)
    · exact .inr (Nat.le_trans a.kp.size h)
  box := fun i lo hi h hb => b.box i lo (by omega) (a.box i lo hi h hb) hb
  len := Nat.le_trans hm b.len
theorem Ext.weaken {n m : Nat} {S S1 : Mem} {L L1 : Locs} {H1 : Hp} {w w1 : World} (a : Ext n S L w S1 L1 H1 w1) (h : m ≤ n) : Ext m S L w S1 L1 H1 w1 :=
  { a with box := fun i lo hi => a.box i lo (by omega), len := Nat.le_trans h a.len }

theorem killL_map {k : IV → IV} (hk : ∀ x : PV, k (.p x) = .p x) (l : List PV) : killL k (l.map .p) = l.map .p := by
  induction l with
  | nil => rfl
  | cons x l ih => simp [killL, hk, ih]
theorem killL_id (l : List IV) : killL id l = l := by
  induction l with
  | nil => rfl
  | cons x l ih => simp [killL, ih]
theorem length_killL (k : IV → IV) (l : List IV) : (killL k l).length = l.length := by
  induction l with
  | nil => rfl
  | cons x l ih => simp [killL, ih]
theorem getElem?_killH (b : Nat) (H : Hp) (i : Nat) : (killH b H)[i]? = (H[i]?).map (killB b) := by
  induction H generalizing i with
  | nil => simp [killH]
  | cons x H ih => cases i <;> simp [killH, ih]
theorem length_killH (b : Nat) (H : Hp) : (killH b H).length = H.length := by
  induction H with
  | nil => rfl
  | cons x H ih => simp [killH, ih]

/-- A block in a later world: as it was there, its handles changed by k. -/
theorem BR.mono {S S' : Mem} {L L' : Locs} {w w' : World} {lo : Lo} (hS : ∀ b o v, S b o v → S' b o v) (hb : w'.heap[lo.blk]? = w.heap[lo.blk]?)
    (hL : ∀ i lo, L i = some lo → L' i = some lo) {k : Blk} (h : BR S L w lo k) : BR S' L' w' lo k := by
  cases k with
  | pc l => simpa [BR, killL_id] using BRc.mono h hS hb id fun x v h => RI.mono hS hL h
  | gc l => simpa [BR, killL_id] using BRc.mono h hS hb id fun x v h => RI.mono hS hL h
  | iter s pos => exact ⟨h.1, by rw [hb]; exact h.2⟩
  | dead => trivial
theorem BR.killed {S : Mem} {L L' : Locs} {w w' : World} {lo : Lo} {b : Nat} (hb : w'.heap[lo.blk]? = w.heap[lo.blk]?)
    (hbox : ∀ lo, L b = some lo → lo.box = false) (hL : ∀ i lo, i ≠ b → L i = some lo → L' i = some lo) {k : Blk} (h : BR S L w lo k) : BR S L' w' lo (killB b k) := by
  cases k with
  | pc l =>
    have := BRc.mono h (fun _ _ _ h => h) hb (kill b) fun x v h => RI_kill hbox (fun _ _ _ h => h) hL x v h
    rw [killL_map (fun _ => rfl)] at this
    exact this
  | gc l => exact BRc.mono h (fun _ _ _ h => h) hb (kill b) fun x v h => RI_kill hbox (fun _ _ _ h => h) hL x v h
  | iter s pos => exact ⟨h.1, by rw [hb]; exact h.2⟩
  | dead => trivial

/-- A world with one block more. -/
structure Grew (w w' : World) (o : Obj) : Prop where
  heap : w'.heap = w.heap.push o
  os : w'.os = w.os
  tape : w'.tape = w.tape
  output : w'.output = w.output
theorem Grew.alloc (w : World) (o : Obj) : Grew w (w.alloc o) o := ⟨rfl, rfl, rfl, rfl⟩
theorem Grew.drew (w : World) (o : Obj) : Grew w (w.drew.alloc o) o := ⟨rfl, rfl, rfl, rfl⟩
theorem Grew.old {w w' : World} {o : Obj} (h : Grew w w' o) {k : Nat} (hk : k < w.heap.size) : w'.heap[k]? = w.heap[k]? := by
  rw [h.heap, Array.getElem?_push, if_neg (by omega)]
theorem Grew.at {w w' : World} {o : Obj} (h : Grew w w' o) : w'.heap[w.heap.size]? = some o := by
  rw [h.heap, Array.getElem?_push, if_pos rfl]
theorem Grew.size {w w' : World} {o : Obj} (h : Grew w w' o) : w'.heap.size = w.heap.size + 1 := by rw [h.heap]; simp
theorem Grew.kp {w w' : World} {o : Obj} (h : Grew w w' o) (O : Nat → Prop) : Kp O w w' :=
  ⟨h.os, h.tape, h.output, by rw [h.size]; omega, fun k hk _ => h.old hk⟩

def addL (L : Locs) (n : Nat) (lo : Lo) : Locs := fun i => if i = n then some lo else L i
theorem addL_old {L : Locs} {n : Nat} {lo : Lo} (hn : L n = none) (i : Nat) (lo' : Lo) (h : L i = some lo') : addL L n lo i = some lo' := by
  unfold addL
  split
  · rename_i e; subst e; rw [hn] at h; cases h
  · exact h
/-- A new block of one's own. -/
theorem Ext.newBlk {S : Mem} {L : Locs} {H : Hp} {w w' : World} {o : Obj} {lo : Lo} {k : Blk} (hi : Inv S L H w) (hg : Grew w w' o) (hlo : lo.blk = w.heap.size)
    (hbr : ∀ L', (∀ i lo', L i = some lo' → L' i = some lo') → BR S L' w' lo k) : Ext H.length S L w S (addL L H.length lo) (H ++ [k]) w' := by
  have hn : L H.length = none := hi.out _ (Nat.le_refl _)
  have hold := addL_old (lo := lo) hn
  refine ⟨⟨?_, ?_, ?_, ?_, ?_⟩, hg.kp _, fun _ _ _ h => h, fun _ _ _ h => .inl h, ?_, fun i lo' _ h _ => hold i lo' h, by simp⟩
  · intro b q hq
    rw [List.getElem?_append] at hq
    split at hq
    · rcases hi.blk b q hq with h | ⟨lo', h1, h2⟩
      · exact .inl h
      · exact .inr ⟨lo', hold _ _ h1, h2.mono (fun _ _ _ h => h) (hg.old (hi.inh _ _ h1)) hold⟩
    · rename_i hlt
      have hb : b = H.length := by
        have := (List.getElem?_eq_some_iff.1 hq).1
        simp at this
        omega
      subst hb
      simp at hq
      subst hq
      exact .inr ⟨lo, by simp [addL], hbr _ hold⟩
  · intro b hb
    simp at hb
    unfold addL
    rw [if_neg (by omega)]
    exact hi.out b (by omega)
  · intro i j a b h1 h2 hij
    unfold addL at h1 h2
    split at h1 <;> split at h2
    · omega
    · cases h1; have := hi.inh _ _ h2; omega
    · cases h2; have := hi.inh _ _ h1; omega
    · exact hi.inj i j a b h1 h2 hij
  · intro i a h1
    unfold addL at h1
    rw [hg.size]
    split at h1
    · cases h1; omega
    · have := hi.inh _ _ h1; omega
  · intro b o v hs
    obtain ⟨h1, h2, h3, h4⟩ := hi.sta b o v hs
    refine ⟨by rw [World.cell?_of_block (hg.old h3)]; exact h1, h2, by rw [hg.size]; omega, ?_⟩
    intro i a h
    unfold addL at h
    split at h
    · cases h; omega
    · exact h4 i a h
  · intro i a h
    unfold addL at h
    split at h
    · cases h; exact .inr (by omega)
    · exact .inl ⟨i, a, h, rfl⟩

/-- A block is written: it lies where it lay, or in new memory; its handles are forgotten. -/
theorem Ext.upd {S : Mem} {L : Locs} {H : Hp} {w w' : World} {b : Nat} {lo lo' : Lo} {k : Blk} (hi : Inv S L H w) (hl : L b = some lo) (hb0 : lo.box = false)
    (hos : w'.os = w.os) (htape : w'.tape = w.tape) (hout : w'.output = w.output) (hsz : w.heap.size ≤ w'.heap.size)
    (hw : ∀ q, q < w.heap.size → q ≠ lo.blk → w'.heap[q]? = w.heap[q]?) (hblk : lo'.blk = lo.blk ∨ w.heap.size ≤ lo'.blk) (hin : lo'.blk < w'.heap.size) (hlen : b < H.length)
    (hbr : ∀ L', (∀ i a, i ≠ b → L i = some a → L' i = some a) → BR S L' w' lo' (killB b k)) :
    Ext H.length S L w S (addL L b lo') (killH b (H.set b k)) w' := by
  have hbox : ∀ a, L b = some a → a.box = false := fun a h => by rw [hl] at h; cases h; exact hb0
  have hold : ∀ i a, i ≠ b → L i = some a → addL L b lo' i = some a := fun i a h h1 => by unfold addL; rw [if_neg h]; exact h1
  have hne : ∀ i a, i ≠ b → L i = some a → a.blk ≠ lo.blk ∧ a.blk ≠ lo'.blk := fun i a h h1 => by
    have h2 := hi.inj i b a lo h1 hl h
    have h3 := hi.inh i a h1
    exact ⟨h2, by omega⟩
  refine ⟨⟨?_, ?_, ?_, ?_, ?_⟩, ⟨hos, htape, hout, hsz, fun q hq hn => hw q hq fun e => hn ⟨b, lo, hl, e.symm⟩⟩, fun _ _ _ h => h, fun _ _ _ h => .inl h, ?_, ?_, by simp [length_killH]⟩
  · intro c q hq
    rw [getElem?_killH] at hq
    by_cases hc : c = b
    · subst hc
      rw [List.getElem?_set_self hlen] at hq
      cases hq
      exact .inr ⟨lo', by simp [addL], hbr _ hold⟩
    · rw [List.getElem?_set_ne (fun e => hc e.symm)] at hq
      cases hH : H[c]? with
      | none => rw [hH] at hq; cases hq
      | some k0 =>
        rw [hH] at hq
        cases hq
        rcases hi.blk c k0 hH with rfl | ⟨a, h1, h2⟩
        · exact .inl rfl
        · exact .inr ⟨a, hold _ _ hc h1, h2.killed (hw _ (hi.inh _ _ h1) (hne _ _ hc h1).1) hbox hold⟩
  · intro c hc
    simp [length_killH] at hc
    unfold addL
    rw [if_neg (by omega)]
    exact hi.out c hc
  · intro i j a c h1 h2 hij
    unfold addL at h1 h2
    split at h1 <;> split at h2
    · omega
    · rename_i e _; cases h1; exact fun q => (hne j c (by omega) h2).2 q.symm
    · rename_i e _; cases h2; exact (hne i a (by omega) h1).2
    · exact hi.inj i j a c h1 h2 hij
  · intro i a h1
    unfold addL at h1
    split at h1
    · cases h1; exact hin
    · have := hi.inh _ _ h1; omega
  · intro c o v hs
    obtain ⟨h1, h2, h3, h4⟩ := hi.sta c o v hs
    have hc : c ≠ lo.blk := fun e => h4 b lo hl e.symm
    refine ⟨by rw [World.cell?_of_block (hw c h3 hc)]; exact h1, h2, by omega, ?_⟩
    intro i a h
    unfold addL at h
    split at h
    · cases h
      rcases hblk with e | e
      · rw [e]; exact fun q => hc q.symm
      · omega
    · exact h4 i a h
  · intro i a h
    unfold addL at h
    split at h
    · cases h
      rcases hblk with e | e
      · exact .inl ⟨b, lo, hl, e.symm⟩
      · exact .inr e
    · exact .inl ⟨i, a, h, rfl⟩
  · intro i a _ h h1
    exact hold i a (fun e => by subst e; rw [hbox _ h] at h1; cases h1) h

/-- A block is written in place: all handles stay. -/
theorem Ext.put {S : Mem} {L : Locs} {H : Hp} {w w' : World} {b : Nat} {lo : Lo} {k : Blk} (hi : Inv S L H w) (hl : L b = some lo)
    (hos : w'.os = w.os) (htape : w'.tape = w.tape) (hout : w'.output = w.output) (hsz : w'.heap.size = w.heap.size)
    (hw : ∀ q, q ≠ lo.blk → w'.heap[q]? = w.heap[q]?) (hlen : b < H.length) (hbr : BR S L w' lo k) :
    Ext H.length S L w S L (H.set b k) w' := by
  refine ⟨⟨?_, ?_, hi.inj, fun i a h => by rw [hsz]; exact hi.inh i a h, ?_⟩, ⟨hos, htape, hout, by omega, fun q hq hn => hw q fun e => hn ⟨b, lo, hl, e.symm⟩⟩, fun _ _ _ h => h, fun _ _ _ h => .inl h,
    fun i a h => .inl ⟨i, a, h, rfl⟩, fun _ _ _ h _ => h, by simp⟩
  · intro c q hq
    by_cases hc : c = b
    · subst hc
      rw [List.getElem?_set_self hlen] at hq
      cases hq
      exact .inr ⟨lo, hl, hbr⟩
    · rw [List.getElem?_set_ne (fun e => hc e.symm)] at hq
      rcases hi.blk c q hq with rfl | ⟨a, h1, h2⟩
      · exact .inl rfl
      · exact .inr ⟨a, h1, h2.mono (fun _ _ _ h => h) (hw _ (hi.inj c b a lo h1 hl hc)) (fun _ _ h => h)⟩
  · intro c hc
    simp at hc
    exact hi.out c hc
  · intro c o v hs
    obtain ⟨h1, h2, h3, h4⟩ := hi.sta c o v hs
    have hc : c ≠ lo.blk := fun e => h4 b lo hl e.symm
    exact ⟨by rw [World.cell?_of_block (hw c hc)]; exact h1, h2, by omega, h4⟩

/-! ### Blocks that are dropped -/
def cutL (n : Nat) (L : Locs) : Locs := fun i => if i < n then L i else none
theorem RI_cut {S : Mem} {L : Locs} {n : Nat} {x : IV} {v : Value} (hx : belowI n x = true) (h : RI S L x v) : RI S (cutL n L) x v := by
  have key : ∀ b lo, b < n → L b = some lo → cutL n L b = some lo := fun b lo hb h => by unfold cutL; rw [if_pos hb]; exact h
  cases x with
  | p x => exact h
  | row b sz n => obtain ⟨lo, h1, h2⟩ := h; exact ⟨lo, key _ _ (by simpa [belowI] using hx) h1, h2⟩
  | rw b sz o n => obtain ⟨lo, h1, h2⟩ := h; exact ⟨lo, key _ _ (by simpa [belowI] using hx) h1, h2⟩
  | ptr b o => obtain ⟨lo, h1, h2⟩ := h; exact ⟨lo, key _ _ (by simpa [belowI] using hx) h1, h2⟩
  | eptr b o => obtain ⟨lo, h1, h2⟩ := h; exact ⟨lo, key _ _ (by simpa [belowI] using hx) h1, h2⟩
  | it b => obtain ⟨lo, h1, h2⟩ := h; exact ⟨lo, key _ _ (by simpa [belowI] using hx) h1, h2⟩
  | undef => trivial
  | agg l => simp [belowI] at hx
  | tup l => simp [belowI] at hx
  | fn f c => simp [belowI] at hx
theorem RIs_cut {S : Mem} {L : Locs} {n : Nat} {l : List IV} {vs : List Value} (hx : belowL n l = true) (h : RIs S L l vs) : RIs S (cutL n L) l vs := by
  induction l generalizing vs with
  | nil => simpa [RIs] using h
  | cons x l ih =>
    obtain ⟨v, r, rfl, h1, h2⟩ := h
    simp only [belowL, Bool.and_eq_true] at hx
    exact ⟨v, r, rfl, RI_cut hx.1 h1, ih hx.2 h2⟩
theorem belowH_get {n : Nat} {H : Hp} (h : belowH n H = true) {b : Nat} {l : List IV} (hb : H[b]? = some (.gc l)) : belowL n l = true := by
  induction H generalizing b with
  | nil => simp at hb
  | cons x H ih =>
    cases b with
    | zero => simp at hb; subst hb; simp only [belowH, Bool.and_eq_true] at h; exact h.1
    | succ b =>
      have hb' : H[b]? = some (.gc l) := by simpa using hb
      cases x <;> simp only [belowH, Bool.and_eq_true] at h
      · exact ih h hb'
      · exact ih h.2 hb'
      · exact ih h hb'
      · exact ih h hb'
theorem Inv.cut {S : Mem} {L : Locs} {H : Hp} {w : World} {n : Nat} (hi : Inv S L H w) (hb : belowH n (H.take n) = true) : Inv S (cutL n L) (H.take n) w := by
  have key : ∀ i lo, cutL n L i = some lo → i < n ∧ L i = some lo := fun i lo h => by
    unfold cutL at h; split at h
    · exact ⟨‹_›, h⟩
    · cases h
  refine ⟨?_, ?_, fun i j a b h1 h2 => hi.inj i j a b (key _ _ h1).2 (key _ _ h2).2, fun i a h => hi.inh i a (key _ _ h).2, ?_⟩
  · intro b k hk
    have hbn : b < n := by
      have := (List.getElem?_eq_some_iff.1 hk).1
      simp at this; omega
    have hk' : H[b]? = some k := by rw [List.getElem?_take] at hk; simpa [hbn] using hk
    rcases hi.blk b k hk' with h | ⟨lo, h1, h2⟩
    · exact .inl h
    · refine .inr ⟨lo, by unfold cutL; rw [if_pos hbn]; exact h1, ?_⟩
      cases k with
      | pc l =>
        obtain ⟨cs, e1, e2, e3, e4, e5, e6, e7⟩ := h2
        exact ⟨cs, e1, e2, e3, e4, e5, e6, RIs_mapP.2 (RIs_mapP.1 e7)⟩
      | gc l =>
        obtain ⟨cs, e1, e2, e3, e4, e5, e6, e7⟩ := h2
        exact ⟨cs, e1, e2, e3, e4, e5, e6, RIs_cut (belowH_get hb hk) e7⟩
      | iter s pos => exact h2
      | dead => trivial
  · intro b hbn
    by_cases h : b < n
    · unfold cutL
      rw [if_pos h]
      refine hi.out b ?_
      simp at hbn; omega
    · unfold cutL; rw [if_neg h]
  · intro b o v hs
    obtain ⟨h1, h2, h3, h4⟩ := hi.sta b o v hs
    exact ⟨h1, h2, h3, fun i a h => h4 i a (key _ _ h).2⟩
/-- What a loop's end drops. -/
theorem Ext.gc {S : Mem} {L : Locs} {H : Hp} {w : World} {n m : Nat} {t : List IV} {vs : List Value} (hi : Inv S L H w) (ht : RIs S L t vs) (hm : m ≤ n) (hn : n ≤ H.length) :
    ∃ L', Ext m S L w S L' (gcH n t H) w ∧ RIs S L' t vs ∧ n ≤ (gcH n t H).length := by
  unfold gcH
  cases hb : belowL n t && belowH n (H.take n) with
  | false => exact ⟨L, Ext.refl hi (by simpa using Nat.le_trans hm hn), ht, by simpa using hn⟩
  | true =>
    simp only [Bool.and_eq_true] at hb
    refine ⟨cutL n L, ⟨hi.cut hb.2, Kp.refl _ _, fun _ _ _ h => h, fun _ _ _ h => .inl h, ?_, ?_, ?_⟩, RIs_cut hb.1 ht, ?_⟩
    · intro i lo h
      unfold cutL at h
      split at h
      · exact .inl ⟨i, lo, h, rfl⟩
      · cases h
    · intro i lo h1 h2 _
      unfold cutL
      rw [if_pos (by omega)]
      exact h2
    · simp; omega
    · simp; omega

/-! ### Stores -/
theorem over_length {α : Type} (l : List α) (off : Nat) (xs : List α) : (over l off xs).length = l.length := by
  induction xs generalizing l off with
  | nil => rfl
  | cons x xs ih => simp [over, ih]
theorem over_get {α : Type} (l : List α) (off : Nat) (xs : List α) (h : off + xs.length ≤ l.length) (j : Nat) :
    (over l off xs)[j]? = if off ≤ j ∧ j < off + xs.length then xs[j - off]? else l[j]? := by
  induction xs generalizing l off with
  | nil => simp [over]; intro h1 h2; omega
  | cons x xs ih =>
    simp only [List.length_cons] at h
    rw [over, ih _ _ (by simp; omega)]
    simp only [List.length_cons]
    by_cases h1 : off + 1 ≤ j ∧ j < off + 1 + xs.length
    · rw [if_pos h1, if_pos (by omega), show j - off = (j - (off + 1)) + 1 from by omega, List.getElem?_cons_succ]
    · rw [if_neg h1]
      by_cases h2 : j = off
      · subst h2; rw [if_pos (by omega), List.getElem?_set_self (by omega)]; simp
      · rw [if_neg (by omega), List.getElem?_set_ne (by omega)]
theorem over_map {α β : Type} (f : α → β) (l : List α) (off : Nat) (xs : List α) : (over l off xs).map f = over (l.map f) off (xs.map f) := by
  induction xs generalizing l off with
  | nil => rfl
  | cons x xs ih => simp [over, ih, List.map_set]
theorem RIs_over {S : Mem} {L : Locs} {l : List IV} {vs : List Value} {xs : List IV} {us : List Value} (off : Nat) (h : RIs S L l vs) (k : RIs S L xs us) : RIs S L (over l off xs) (over vs off us) := by
  induction xs generalizing l vs off us with
  | nil => rw [RIs_nil] at k; subst k; exact h
  | cons x xs ih => obtain ⟨u, r, rfl, h1, h2⟩ := k; exact ih _ (h.set off h1) h2
theorem over_append {α : Type} (a b : List α) (off : Nat) (xs : List α) (h : off + xs.length ≤ a.length) : over (a ++ b) off xs = over a off xs ++ b := by
  induction xs generalizing a off with
  | nil => rfl
  | cons x xs ih =>
    simp only [List.length_cons] at h
    rw [over, over, List.set_append_left _ _ (by omega), ih _ _ (by rw [List.length_set]; omega)]
theorem over_take {α : Type} (l : List α) (n off : Nat) (xs : List α) (h : off + xs.length ≤ n) (hn : n ≤ l.length) : (over l off xs).take n = over (l.take n) off xs := by
  have e : l = l.take n ++ l.drop n := (List.take_append_drop n l).symm
  have h1 : (l.take n).length = n := by simp; omega
  conv => lhs; rw [e, over_append _ _ _ _ (by omega)]
  rw [List.take_left' (by rw [over_length, h1])]
theorem World.os_setCells (b : Nat) : ∀ (vs : List Value) (o : Nat) (w : World), (w.setCells b o vs).os = w.os ∧ (w.setCells b o vs).tape = w.tape ∧ (w.setCells b o vs).output = w.output ∧ (w.setCells b o vs).heap.size = w.heap.size ∧ ∀ q, q ≠ b → (w.setCells b o vs).heap[q]? = w.heap[q]?
  | [], _, w => ⟨rfl, rfl, rfl, rfl, fun _ _ => rfl⟩
  | v :: vs, o, w => by
    obtain ⟨h1, h2, h3, h4, h5⟩ := World.os_setCells b vs (o + 1) (w.setCell ⟨b, o, none⟩ v)
    refine ⟨h1, h2, h3, ?_, fun q hq => ?_⟩
    · rw [World.setCells, h4]; simp [World.setCell]
    · rw [World.setCells, h5 q hq]; exact Below.heap_setCell _ _ _ _ hq
theorem rangeAt_over {w : World} {b : Nat} {cs : List Value} (hr : w.rangeAt b 0 cs) (off : Nat) (vs : List Value) (h : off + vs.length ≤ cs.length) : (w.setCells b off vs).rangeAt b 0 (over cs off vs) := by
  intro j v hv
  rw [over_get _ _ _ h] at hv
  rw [Nat.zero_add]
  split at hv
  · rename_i hj
    have := World.cell?_setCells_in b vs off w (fun i hi => by
      have : off + i < cs.length := by omega
      have := hr (off + i) (cs[off + i]) (by simp [this])
      rw [Nat.zero_add] at this
      rw [this]; rfl) (j - off) (by omega)
    rw [show off + (j - off) = j from by omega] at this
    rw [this, ← hv]
    rw [List.getElem?_eq_getElem (by omega)]
  · rename_i hj
    rw [World.cell?_setCells_out b vs off w ⟨b, j, none⟩ (fun _ _ => by simp only; omega)]
    have := hr j v hv
    rwa [Nat.zero_add] at this
end Go.Proofs.YtgldfdpdjlohiaaDoor.Iv
