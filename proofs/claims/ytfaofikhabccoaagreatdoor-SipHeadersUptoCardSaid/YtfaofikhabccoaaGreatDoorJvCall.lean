/- Calls of the ideal machine are calls of the model; conditions: none. -/
import Derived.Test.YtfaofikhabccoaaGreatDoorJvSpec
namespace Go.Proofs.YtfaofikhabccoaaGreatDoor.Jv
open Go Go.RowKit
set_option linter.unusedVariables false
set_option linter.unusedSimpArgs false
section
variable {ρ : Type} {P : Program} {S : Mem} {L : Locs} {H : Hp} {w : World} {t : List IV} {vs : List Value} {out : ρ}

/-! ### What is lent -/
/-- All that one's own blocks hold, besides what never turns. -/
def froz (S : Mem) (L : Locs) (w : World) : Mem := fun b o v => S b o v ∨ (Own L b ∧ b < w.heap.size ∧ w.cell? ⟨b, o, none⟩ = some v ∧ v.oneCell' = true)
def noL : Locs := fun _ => none
theorem own_noL {b : Nat} (h : Own noL b) : False := by obtain ⟨i, lo, h, _⟩ := h; cases h
theorem froz_inv (hi : Inv S L H w) : Inv (froz S L w) noL [] w := by
  refine ⟨(fun b k h => by simp at h), (fun _ _ => rfl), (fun i j a b h => by cases h), (fun i a h => by cases h), fun b o v h => ?_⟩
  rcases h with h | ⟨_, h1, h2, h3⟩
  · obtain ⟨h1, h2, h3, _⟩ := hi.sta b o v h
    exact ⟨h1, h2, h3, fun i a h => by cases h⟩
  · exact ⟨h2, h3, h1, fun i a h => by cases h⟩
theorem froz_sub (b o : Nat) (v : Value) (h : S b o v) : froz S L w b o v := .inl h
theorem Sf_froz (fz : List Nat) (b o : Nat) (v : Value) (h : Sf S L w fz b o v) : froz S L w b o v := by
  rcases h with h | ⟨c, _, lo, e1, e2, e3, e4, e5, e6⟩
  · exact .inl h
  · exact .inr ⟨⟨c, lo, e1, e2, e3⟩, e6, e4, e5⟩
theorem freezeL_sound {fz : IV → Option PV} {S' : Mem} (hf : ∀ x y v, fz x = some y → RI S L x v → RP S' y v) {l : List IV} {r : List PV} (h : freezeL fz l = some r) {cs : List Value} (hl : RIs S L l cs) : RPs S' r cs := by
  induction l generalizing r cs with
  | nil => cases h; simpa [RPs, RIs] using hl
  | cons x l ih =>
    obtain ⟨v, q, rfl, h1, h2⟩ := hl
    simp only [freezeL] at h
    split at h
    · rename_i y hy
      split at h
      · rename_i r' hr
        cases h
        exact RPs_cons.2 ⟨hf _ _ _ hy h1, ih hr h2⟩
      · cases h
    · cases h
theorem freezeL_len {fz : IV → Option PV} {l : List IV} {r : List PV} (h : freezeL fz l = some r) : r.length = l.length := by
  induction l generalizing r with
  | nil => cases h; rfl
  | cons x l ih =>
    simp only [freezeL] at h
    split at h
    · split at h
      · rename_i r' hr; cases h; simp [ih hr]
      · cases h
    · cases h
theorem blk_frozen {lo : Lo} {i : Nat} {l : List IV} (hL : L i = some lo) (hi : Inv S L H w) (h : BRc S L w lo l) : ∃ cs : List Value, RIs S L l (cs.take lo.len) ∧ l.length = lo.len ∧ lo.len ≤ cs.length ∧ ∀ j v, cs[j]? = some v → froz S L w lo.blk j v := by
  obtain ⟨cs, f1, f2, f3, f4, f5, f6, f7⟩ := h
  refine ⟨cs, f7, f2, by omega, fun j v hj => ?_⟩
  have hz : lo.size ≠ 0 := by have := (List.getElem?_eq_some_iff.1 hj).1; omega
  refine .inr ⟨⟨i, lo, hL, hz, rfl⟩, hi.inh _ _ hL hz, ?_, f6 v (List.mem_of_getElem? hj)⟩
  have := f4 j v hj
  rwa [Nat.zero_add] at this
theorem freeze_sound (hi : Inv S L H w) (k : Nat) : ∀ (x : IV) (y : PV) (v : Value), freeze H k x = some y → RI S L x v → RP (froz S L w) y v := by
  have hp : ∀ (x : PV) (v : Value), RP S x v → RP (froz S L w) x v := fun x v h => RP.mono (fun b o v h => froz_sub b o v h) h
  have hrow : ∀ (b sz : Nat) (y : PV) (v : Value), (match H[b]? with | some (.tc t l) => if sz = sizeTy t then some (PV.sl t l) else none | _ => none) = some y → RI S L (.row b sz) v → RP (froz S L w) y v := by
    intro b sz y v h hx
    split at h
    · rename_i q l hb
      split at h
      · rename_i hs; cases h; exact RP.mono (Sf_froz [b]) (row_cells hi hx hb hs (by simp))
      · cases h
    · cases h
  have hrw : ∀ (b sz a n : Nat) (y : PV) (v : Value), (match H[b]? with | some (.tc t l) => if sz = sizeTy t then some (PV.sl t ((l.drop a).take n)) else none | _ => none) = some y → RI S L (.rw b sz a n) v → RP (froz S L w) y v := by
    intro b sz a n y v h hx
    split at h
    · rename_i q l hb
      split at h
      · rename_i hs; cases h; exact RP.mono (Sf_froz [b]) (rw_cells hi hx hb hs (by simp))
      · cases h
    · cases h
  induction k with
  | zero =>
    intro x y v h hx
    cases x with
    | p x => cases h; exact hp _ _ hx
    | row b sz => exact hrow b sz y v h hx
    | rw b sz a n => exact hrw b sz a n y v h hx
    | _ => cases h
  | succ k ih =>
    intro x y v h hx
    have cell : ∀ (b : Nat) (lo : Lo) (q : Blk), L b = some lo → H[b]? = some q → ∀ l, blkCells q = some l → BRc S L w lo l := by
      intro b lo q hL hq l hl
      rcases hi.blk b q hq with rfl | ⟨lo', e1, e2⟩
      · cases hl
      · rw [hL] at e1; cases e1
        exact (BR_cells hl).1 e2
    have part : ∀ (cs : List Value) (l : List PV) (b : Nat) (n off m : Nat), RPs (froz S L w) l (cs.take n) → (∀ j v, cs[j]? = some v → froz S L w b j v) → RPm (froz S L w) ((l.drop off).take m) b off := by
      intro cs l b n off m h1 h2
      refine RPm_of (cs := ((cs.take n).drop off).take m) ((h1.drop off).take m) fun j v hj => h2 _ _ ?_
      rw [List.getElem?_take] at hj
      split at hj
      · rw [List.getElem?_drop, List.getElem?_take] at hj
        split at hj
        · exact hj
        · cases hj
      · cases hj
    cases x with
    | p x => cases h; exact hp _ _ hx
    | agg l =>
      obtain ⟨cs, rfl, h2⟩ := hx
      simp only [freeze] at h
      split at h
      · rename_i r hr; cases h; exact mkAggP_rel (freezeL_sound ih hr h2)
      · cases h
    | tup l =>
      obtain ⟨cs, rfl, h2⟩ := hx
      simp only [freeze] at h
      split at h
      · rename_i r hr; cases h; exact mkTupP_rel (freezeL_sound ih hr h2)
      · cases h
    | row b sz => exact hrow b sz y v h hx
    | rw b sz a n => exact hrw b sz a n y v h hx
    | ptr b off =>
      obtain ⟨lo, e1, e2, rfl⟩ := hx
      simp only [freeze] at h
      split at h
      · rename_i l hb
        cases h
        obtain ⟨cs, g1, g2, g3, g4⟩ := blk_frozen e1 hi (cell b lo _ e1 hb _ rfl)
        have := part cs l lo.blk lo.len off (l.drop off).length ((RIs_mapP.1 g1).mono fun b o v h => froz_sub b o v h) g4
        rw [List.take_length] at this
        exact ⟨_, _, rfl, this⟩
      · rename_i l hb
        split at h
        · rename_i r hr
          cases h
          obtain ⟨cs, g1, g2, g3, g4⟩ := blk_frozen e1 hi (cell b lo _ e1 hb _ rfl)
          have h5 := freezeL_sound ih hr (g1.drop off)
          refine ⟨_, _, rfl, RPm_of h5 fun j v hj => g4 _ _ ?_⟩
          rw [List.getElem?_drop, List.getElem?_take] at hj
          split at hj
          · exact hj
          · cases hj
        · cases h
      · cases h
    | eptr b sz j off => cases h
    | fn f c => cases h
    | it b => cases h
    | undef => cases h
theorem allIsP_some {l : List IV} (h : allIsP l = true) : ∃ ps : List PV, l = ps.map .p := by
  induction l with
  | nil => exact ⟨[], rfl⟩
  | cons x l ih =>
    simp only [allIsP, Bool.and_eq_true] at h
    obtain ⟨ps, rfl⟩ := ih h.2
    cases x <;> simp only [isP] at h <;> try (cases h.1; done)
    rename_i y; exact ⟨y :: ps, rfl⟩
theorem lendL_p {ps qs : List PV} (h : lendL H (ps.map .p) = some qs) : qs = ps := by
  unfold lendL at h
  induction ps generalizing qs with
  | nil => cases h; rfl
  | cons x ps ih =>
    simp only [List.map_cons, freezeL] at h
    have : freeze H 3 (.p x) = some x := by unfold freeze; rfl
    rw [this] at h
    simp only at h
    split at h
    · rename_i r hr; cases h; rw [ih hr]
    · cases h

/-! ### What stands while a law runs -/
/-- What stands in memory while the law runs: cells, and whole blocks. -/
structure Tab where
  cells : Mem
  blks : Nat → Obj → Prop
def Good (T : Tab) (S : Mem) (L : Locs) (w : World) : Prop := (∀ b o u, T.cells b o u → S b o u) ∧ ∀ g o, T.blks g o → w.heap[g]? = some o ∧ ¬ Own L g
theorem Good.ext {T : Tab} {S S' : Mem} {L L' : Locs} {H' : Hp} {w w' : World} {n : Nat} (h : Good T S L w) (e : Ext n S L w S' L' H' w') : Good T S' L' w' := by
  refine ⟨fun b o u hu => e.mem b o u (h.1 b o u hu), fun g o hg => ?_⟩
  obtain ⟨h1, h2⟩ := h.2 g o hg
  have hlt : g < w.heap.size := (Array.getElem?_eq_some_iff.1 h1).1
  refine ⟨by rw [e.kp.block g hlt h2]; exact h1, fun ⟨i, lo, h3, h0, h4⟩ => ?_⟩
  rcases e.own i lo h3 h0 with h5 | h5
  · rw [h4] at h5; exact h2 h5
  · omega
theorem Good.bare {T : Tab} {S : Mem} {L : Locs} {w : World} (h : Good T S L w) : Good T S noL w := ⟨h.1, fun g o hg => ⟨(h.2 g o hg).1, own_noL⟩⟩
theorem Good.froz {T : Tab} {S : Mem} {L : Locs} {w : World} (h : Good T S L w) : Good T (froz S L w) noL w := ⟨fun b o u hu => froz_sub b o u (h.1 b o u hu), h.bare.2⟩
theorem Inv.bare (hi : Inv S L H w) : Inv S noL [] w :=
  ⟨(fun b k h => by simp at h), (fun _ _ => rfl), (fun i j a b h => by cases h), (fun i a h => by cases h), fun b o v h => by
    obtain ⟨h1, h2, h3, _⟩ := hi.sta b o v h
    exact ⟨h1, h2, h3, fun i a h => by cases h⟩⟩
/-- A call's results, as one value. -/
def pack : List Value → Value
  | [v] => v
  | l => .tuple ⟨l⟩
/-- A call by values is one of the model's. -/
def CallOK (P : Program) (T : Tab) (call : FuncId → (s : Spec) → List PV → Option (Holes s)) : Prop := ∀ f s args x, call f s args = some x → ∀ S w vs, Good T S noL w → Inv S noL [] w → RPs S args vs →
  Calls P f vs.toArray w fun e w' => ∃ us S' L', e = .returned (pack us) ∧ RIs S' L' (rebT s x) us ∧ Ext 0 S noL w S' L' (rebH s x) w'

/-! ### Results -/
theorem outI_rel {l : List IV} {us : List Value} (h : RIs S L l us) : RI S L (outI l) (pack us) := by
  have hl := h.length
  unfold outI
  split
  · rename_i x
    obtain ⟨v, r, rfl, h1, h2⟩ := h
    rw [RIs_nil] at h2
    subst h2
    exact h1
  · rename_i hne
    have : pack us = .tuple ⟨us⟩ := by
      unfold pack
      split
      · rename_i v
        exfalso
        obtain ⟨x, rfl⟩ := List.length_eq_one_iff.1 (show l.length = 1 by simpa using hl.symm)
        exact hne x rfl
      · rfl
    rw [this]
    exact mkTup_rel h
theorem flatP_rel {S' : Mem} {x : PV} {v : Value} (hf : flatP x = true) (h : RP S x v) : RP S' x v := by
  cases x <;> simp only [flatP] at hf <;> try (cases hf; done)
  · exact h
  · exact h
theorem flatPL_rel {S' : Mem} {l : List PV} {vs : List Value} (hf : flatPL l = true) (h : RPs S l vs) : RPs S' l vs := by
  induction l generalizing vs with
  | nil => simpa [RPs] using h
  | cons x l ih =>
    obtain ⟨v, r, rfl, h1, h2⟩ := h
    simp only [flatPL, Bool.and_eq_true] at hf
    exact RPs_cons.2 ⟨flatP_rel hf.1 h1, ih hf.2 h2⟩
theorem flat0_rel {S' : Mem} {x : IV} {v : Value} (hf : flat0 x = true) (h : RI S L x v) : RI S' L x v := by
  cases x <;> simp only [flat0] at hf <;> try (cases hf; done)
  · exact flatP_rel hf h
  · exact h
  · exact h
  · trivial
theorem flat0L_rel {S' : Mem} {l : List IV} {vs : List Value} (hf : flat0L l = true) (h : RIs S L l vs) : RIs S' L l vs := by
  induction l generalizing vs with
  | nil => simpa [RIs] using h
  | cons x l ih =>
    obtain ⟨v, r, rfl, h1, h2⟩ := h
    simp only [flat0L, Bool.and_eq_true] at hf
    exact RIs_cons.2 ⟨flat0_rel hf.1 h1, ih hf.2 h2⟩
theorem flatI_rel {S' : Mem} {x : IV} {v : Value} (hf : flatI x = true) (h : RI S L x v) : RI S' L x v := by
  cases x with
  | agg l => obtain ⟨cs, rfl, h1⟩ := h; exact ⟨cs, rfl, flat0L_rel hf h1⟩
  | _ => exact flat0_rel hf h
theorem flatIL_rel {S' : Mem} {l : List IV} {vs : List Value} (hf : flatIL l = true) (h : RIs S L l vs) : RIs S' L l vs := by
  induction l generalizing vs with
  | nil => simpa [RIs] using h
  | cons x l ih =>
    obtain ⟨v, r, rfl, h1, h2⟩ := h
    simp only [flatIL, Bool.and_eq_true] at hf
    exact RIs_cons.2 ⟨flatI_rel hf.1 h1, ih hf.2 h2⟩
theorem flatPL_append {a b : List PV} : flatPL (a ++ b) = (flatPL a && flatPL b) := by
  induction a with
  | nil => rfl
  | cons x a ih => simp [flatPL, ih, Bool.and_assoc]
theorem flatTy_cells : ∀ (q : Ty) (x : T q), flatTy q = true → flatPL (cellsT q x) = true
  | .int k, x, _ => rfl
  | .u8, x, _ => rfl
  | .bool, x, _ => rfl
  | .str, x, _ => rfl
  | .err, x, _ => rfl
  | .sl t, x, h => by cases h
  | .opt t, x, h => by cases h
  | .pair a b, x, h => by
    simp only [flatTy, Bool.and_eq_true] at h
    simp only [cellsT, flatPL_append, flatTy_cells a _ h.1, flatTy_cells b _ h.2, Bool.and_self]
theorem flatTy_cellsL (q : Ty) (l : List (T q)) (h : flatTy q = true) : flatPL (cellsL q l) = true := by
  induction l with
  | nil => rfl
  | cons x l ih => simp only [cellsL, flatPL_append, flatTy_cells q x h, ih, Bool.and_self]
theorem flatBk_rel {S' : Mem} {lo : Lo} {k : Blk} (hf : flatBk k = true) (h : BR S L w lo k) : BR S' L w lo k := by
  have go : ∀ l : List IV, (∀ cs, RIs S L l cs → RIs S' L l cs) → BRc S L w lo l → BRc S' L w lo l := by
    rintro l hl ⟨cs, f1, f2, f3, f4, f5, f6, f7⟩
    exact ⟨cs, f1, f2, f3, f4, f5, f6, hl _ f7⟩
  cases k with
  | pc l => exact go _ (fun cs h => RIs_mapP.2 (flatPL_rel hf (RIs_mapP.1 h))) h
  | gc l => exact go _ (fun cs h => flat0L_rel hf h) h
  | tc q l => exact go _ (fun cs h => RIs_mapP.2 (flatPL_rel (flatTy_cellsL q l hf) (RIs_mapP.1 h))) h
  | iter s p => exact h
  | dead => trivial
theorem flatH_get {H : Hp} (h : flatH H = true) {i : Nat} {k : Blk} (hk : H[i]? = some k) : flatBk k = true := by
  induction H generalizing i with
  | nil => simp at hk
  | cons x H ih =>
    simp only [flatH, Bool.and_eq_true] at h
    cases i with
    | zero => simp at hk; subst hk; exact h.1
    | succ i => exact ih h.2 (by simpa using hk)
/-- A call's blocks behind one's own. -/
def joinL (n : Nat) (L L' : Locs) : Locs := fun i => if i < n then L i else L' (i - n)
theorem shA_rel {n : Nat} {L' : Locs} (x : IV) (v : Value) (h : RI S L' x v) : RI S (joinL n L L') (shA n x) v := by
  have key : ∀ b lo, L' b = some lo → joinL n L L' (n + b) = some lo := fun b lo h => by
    unfold joinL; rw [if_neg (by omega), show n + b - n = b from by omega]; exact h
  cases x with
  | p x => exact h
  | row b sz => obtain ⟨lo, h1, h2⟩ := h; exact ⟨lo, key _ _ h1, h2⟩
  | rw b sz o m => obtain ⟨lo, h1, h2⟩ := h; exact ⟨lo, key _ _ h1, h2⟩
  | ptr b o => obtain ⟨lo, h1, h2⟩ := h; exact ⟨lo, key _ _ h1, h2⟩
  | eptr b sz j o => obtain ⟨lo, h1, h2⟩ := h; exact ⟨lo, key _ _ h1, h2⟩
  | it b => obtain ⟨lo, h1, h2⟩ := h; exact ⟨lo, key _ _ h1, h2⟩
  | _ => trivial
theorem joinL_old {n : Nat} {L' : Locs} (ho : ∀ b, n ≤ b → L b = none) (i : Nat) (lo : Lo) (h : L i = some lo) : joinL n L L' i = some lo := by
  unfold joinL
  rw [if_pos]
  · exact h
  · rcases Nat.lt_or_ge i n with q | q
    · exact q
    · rw [ho i q] at h; cases h
/-- Behind a call one's own blocks stand, and those of the answer lie behind them. -/
theorem Ext.join {S' Sc : Mem} {L' : Locs} {Hc : Hp} {w' : World} (hi : Inv S L H w) (hsub : ∀ b o u, S b o u → S' b o u) (hnew : ∀ b o u, S' b o u → S b o u ∨ w.heap.size ≤ b)
    (hstab : ∀ b o v, S' b o v → w'.cell? ⟨b, o, none⟩ = some v ∧ v.oneCell' = true ∧ b < w'.heap.size ∧ ∀ i lo, L' i = some lo → lo.size ≠ 0 → lo.blk ≠ b)
    (he : Ext 0 Sc noL w Sc L' Hc w') (hblk : ∀ b k, Hc[b]? = some k → k = .dead ∨ ∃ lo, L' b = some lo ∧ BR S' L' w' lo k) :
    Ext H.length S L w S' (joinL H.length L L') (H ++ mapH (shA H.length) Hc) w' := by
  have hold := joinL_old (L' := L') (hi.out)
  have hkp : ∀ k, k < w.heap.size → w'.heap[k]? = w.heap[k]? := fun k hk => he.kp.block k hk own_noL
  have hcase : ∀ i lo, joinL H.length L L' i = some lo → (i < H.length ∧ L i = some lo) ∨ (H.length ≤ i ∧ L' (i - H.length) = some lo) := fun i lo h => by
    unfold joinL at h
    split at h
    · exact .inl ⟨by assumption, h⟩
    · exact .inr ⟨by omega, h⟩
  have hfar : ∀ i lo, L' i = some lo → lo.size ≠ 0 → w.heap.size ≤ lo.blk := fun i lo h h0 => by
    rcases he.own i lo h h0 with h1 | h1
    · exact (own_noL h1).elim
    · exact h1
  refine ⟨⟨?_, ?_, ?_, ?_, ?_⟩, he.kp.mono fun i h => (own_noL h).elim, hsub, (fun b o u h => (hnew b o u h).imp id .inr), ?_, fun i lo _ h _ => hold i lo h, by simp⟩
  · intro b k hk
    rw [List.getElem?_append] at hk
    split at hk
    · rcases hi.blk b k hk with h | ⟨lo, h1, h2⟩
      · exact .inl h
      · exact .inr ⟨lo, hold _ _ h1, h2.mono hsub (fun h0 => hkp _ (hi.inh _ _ h1 h0)) hold⟩
    · rename_i hlt
      rw [getElem?_mapH] at hk
      cases hq : Hc[b - H.length]? with
      | none => rw [hq] at hk; cases hk
      | some q =>
        rw [hq] at hk
        cases hk
        rcases hblk _ q hq with rfl | ⟨lo, h1, h2⟩
        · exact .inl rfl
        · refine .inr ⟨lo, ?_, h2.mapped (fun _ => rfl) (fun _ => rfl) shA_rel⟩
          unfold joinL; rw [if_neg hlt]; exact h1
  · intro b hb
    rw [List.length_append, length_mapH] at hb
    unfold joinL
    rw [if_neg (by omega)]
    exact he.inv.out _ (by omega)
  · intro i j lo lo' h1 h2 h0 h0' hij
    rcases hcase i lo h1 with ⟨q1, h1⟩ | ⟨q1, h1⟩ <;> rcases hcase j lo' h2 with ⟨q2, h2⟩ | ⟨q2, h2⟩
    · exact hi.inj i j lo lo' h1 h2 h0 h0' hij
    · have := hi.inh _ _ h1 h0; have := hfar _ _ h2 h0'; omega
    · have := hi.inh _ _ h2 h0'; have := hfar _ _ h1 h0; omega
    · exact he.inv.inj _ _ lo lo' h1 h2 h0 h0' (by omega)
  · intro i lo h1 h0
    rcases hcase i lo h1 with ⟨q1, h1⟩ | ⟨q1, h1⟩
    · exact Nat.lt_of_lt_of_le (hi.inh _ _ h1 h0) he.kp.size
    · exact he.inv.inh _ _ h1 h0
  · intro b o v hs
    obtain ⟨k1, k2, k3, k4⟩ := hstab b o v hs
    refine ⟨k1, k2, k3, fun i lo h1 h0 => ?_⟩
    rcases hcase i lo h1 with ⟨q1, h1⟩ | ⟨q1, h1⟩
    · rcases hnew b o v hs with h4 | h4
      · exact (hi.sta b o v h4).2.2.2 i lo h1 h0
      · have := hi.inh _ _ h1 h0; omega
    · exact k4 _ lo h1 h0
  · intro i lo h1 h0
    rcases hcase i lo h1 with ⟨q1, h1⟩ | ⟨q1, h1⟩
    · exact .inl ⟨i, lo, h1, h0, rfl⟩
    · exact .inr (hfar _ _ h1 h0)
theorem cellsP_one {x : PV} {v : Value} (h : isAggX x = false) (hx : RP S x v) : cellsP x = [x] := by
  cases x with
  | v z => cases z <;> simp only [isAggX] at h <;> first | rfl | cases h
  | agg l => cases h
  | _ => rfl
theorem isAggX_cells {x : PV} {v : Value} (h : isAggX x = true) (hx : RP S x v) : ∃ cs : List Value, v = .agg ⟨cs⟩ ∧ RPs S (cellsP x) cs := by
  cases x with
  | v z =>
    cases z <;> simp only [isAggX] at h <;> try (cases h; done)
    rename_i cs
    simp only [RP] at hx
    exact ⟨cs.toList, by rw [hx], RPs_mapV _⟩
  | agg l => exact hx
  | _ => cases h
theorem fixA_sound {P : Program} : ∀ (ts : List TypeId) {xs : List PV} {K : List PV → Option ρ}, fixA P ts xs K = some out → ∃ l, K l = some out ∧ ∀ S vs, RPs S xs vs → RPs S l vs
  | [], xs, K, h => ⟨xs, by simpa [fixA] using h, fun _ _ h => h⟩
  | t :: ts, [], K, h => by cases h
  | t :: ts, x :: xs, K, h => by
    simp only [fixA] at h
    split at h
    · rename_i q hq
      split at h
      · rename_i hagg
        obtain ⟨y, r, h1, h2, h3⟩ := decT_sound q h
        split at h1
        · obtain ⟨l, h4, h5⟩ := fixA_sound ts h1
          refine ⟨_, h4, ?_⟩
          rintro S vs ⟨v, r, rfl, g1, g2⟩
          refine RPs_cons.2 ⟨?_, h5 S r g2⟩
          unfold argP
          cases hx : isAggX x with
          | true =>
            rw [hagg, hx]
            obtain ⟨cs, rfl, g3⟩ := isAggX_cells hx g1
            have := h3 S cs g3
            rw [List.append_nil] at this
            exact mkAggP_rel this
          | false =>
            rw [hagg, hx]
            have g3 := h3 S [v] (by rw [cellsP_one hx g1]; exact RPs_cons.2 ⟨g1, by simp [RPs]⟩)
            rw [List.append_nil] at g3
            generalize cellsT q y = cs at g3
            cases cs with
            | nil => simp [RPs] at g3
            | cons z zs =>
              obtain ⟨g4, g5⟩ := RPs_cons.1 g3
              cases zs with
              | nil => exact g4
              | cons _ _ => simp [RPs] at g5
        · cases h1
      · cases h
    · obtain ⟨l, h4, h5⟩ := fixA_sound ts h
      refine ⟨_, h4, ?_⟩
      rintro S vs ⟨v, r, rfl, g1, g2⟩
      exact RPs_cons.2 ⟨g1, h5 S r g2⟩
theorem callI_sound {E : Env} {m : Mach} {T : Tab} (hcp : CallOK E.P T m.call) (hg : Good T S L w) {f : FuncId} {args : List IV} {K : IV → Hp → Option ρ} (h : callI E m f args H K = some out)
    (hi : Inv S L H w) (hargs : RIs S L args vs) : Calls E.P f vs.toArray w fun e w' => ∃ v S' L' r H', e = .returned v ∧ K r H' = some out ∧ Ext H.length S L w S' L' H' w' ∧ RI S' L' r v ∧ (∀ i lo, L i = some lo → L' i = some lo) := by
  unfold callI at h
  split at h
  · split at h
    · rename_i ps0 hps
      have hh00 := fixA_sound _ h
      clear h
      obtain ⟨ps, h, hfix⟩ := hh00
      have hh0 := obind_some h
      clear h
      obtain ⟨x, hx, h⟩ := hh0
      have hh := chk_some h
      clear h
      obtain ⟨hc, h⟩ := hh
      cases hall : allIsP args with
      | true =>
        obtain ⟨qs, rfl⟩ := allIsP_some hall
        have e1 := lendL_p hps
        subst e1
        refine (hcp f _ _ x hx S w vs hg.bare hi.bare (hfix _ _ (RIs_mapP.1 hargs))).mono ?_
        rintro e w' ⟨us, S', L', rfl, h1, h2⟩
        refine ⟨_, S', joinL H.length L L', _, _, rfl, h, ?_, outI_rel (RIs_of _ (RI_mapI _ shA_rel) h1), joinL_old hi.out⟩
        exact Ext.join (Sc := S') hi h2.mem (fun b o u h => (h2.new b o u h).imp id fun q => q.elim (fun q => (own_noL q).elim) id) h2.inv.sta ⟨h2.inv, h2.kp, fun _ _ _ h => h, fun _ _ _ h => .inl h, h2.own, h2.box, h2.len⟩ h2.inv.blk
      | false =>
        rw [hall] at hc
        simp only [Bool.false_or, Bool.and_eq_true] at hc
        have hlend : RPs (froz S L w) ps vs := hfix _ _ (freezeL_sound (fun x y v h hx => freeze_sound hi 3 x y v h hx) hps hargs)
        refine (hcp f _ _ x hx (froz S L w) w vs hg.froz (froz_inv hi) hlend).mono ?_
        rintro e w' ⟨us, S', L', rfl, h1, h2⟩
        have hst : ∀ b o v, S b o v → w'.cell? ⟨b, o, none⟩ = some v ∧ v.oneCell' = true ∧ b < w'.heap.size ∧ ∀ i lo, L' i = some lo → lo.size ≠ 0 → lo.blk ≠ b :=
          fun b o v hs => h2.inv.sta b o v (h2.mem _ _ _ (.inl hs))
        refine ⟨_, S, joinL H.length L L', _, _, rfl, h, ?_, outI_rel (RIs_of _ (RI_mapI _ shA_rel) (flatIL_rel hc.1 h1)), joinL_old hi.out⟩
        refine Ext.join (Sc := S') hi (fun _ _ _ h => h) (fun _ _ _ h => .inl h) hst ⟨h2.inv, h2.kp, fun _ _ _ h => h, fun _ _ _ h => .inl h, h2.own, h2.box, h2.len⟩ fun b k hk => ?_
        rcases h2.inv.blk b k hk with e | ⟨lo, e1, e2⟩
        · exact .inl e
        · exact .inr ⟨lo, e1, flatBk_rel (flatH_get hc.2 hk) e2⟩
    · cases h
  · cases h
end
end Go.Proofs.YtfaofikhabccoaaGreatDoor.Jv
