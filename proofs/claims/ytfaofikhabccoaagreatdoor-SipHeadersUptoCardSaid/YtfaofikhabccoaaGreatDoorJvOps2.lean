/- The ideal machine's operations that make or write memory; conditions: none. -/
import Derived.Test.YtfaofikhabccoaaGreatDoorJvOps
namespace Go.Proofs.YtfaofikhabccoaaGreatDoor.Jv
open Go Go.RowKit
set_option linter.unusedVariables false
set_option linter.unusedSimpArgs false
section
variable {ρ : Type} {P : Program} {S : Mem} {L : Locs} {H : Hp} {w : World} {t : List IV} {vs : List Value} {run : Result Next} {K : IV → Option Nat → Hp → Option ρ} {out : ρ}

theorem cell_of_heap {w : World} {b : Nat} {c : Array Value} {e : TypeId} {fr : Nat × Nat} (h : w.heap[b]? = some (.cells c e fr)) (j : Nat) : w.cell? ⟨b, j, none⟩ = c[j]? := by
  simp [World.cell?, h]
theorem frozen_of_heap {w : World} {b : Nat} {c : Array Value} {e : TypeId} {fr : Nat × Nat} (h : w.heap[b]? = some (.cells c e fr)) (j : Nat) (hf : ¬ (fr.1 ≤ j ∧ j < fr.2)) : w.frozen? ⟨b, j, none⟩ = false := by
  obtain ⟨lo, hi⟩ := fr
  simp only [World.frozen?, h]
  simp only [not_and, Nat.not_lt] at hf
  by_cases h1 : lo ≤ j
  · simp [h1, hf h1]
  · simp [h1]
theorem mkBlk_BR {lo : Lo} {l : List IV} (h : BRc S L w lo l) : BR S L w lo (mkBlk l) := by
  unfold mkBlk
  split
  · rename_i r hr; rw [allP_some hr] at h; exact h
  · exact h
theorem BR_cells {lo : Lo} {k : Blk} {c : List IV} (hc : blkCells k = some c) : BR S L w lo k ↔ BRc S L w lo c := by
  cases k <;> simp only [blkCells] at hc <;> cases hc <;> rfl
/-- A row of cells in one new block. -/
theorem new_BRc {l : List IV} {cs rest : List Value} {e : TypeId} {fr : Nat × Nat} {b : Nat} {box : Bool} (hh : w.heap[b]? = some (.cells ⟨cs ++ rest⟩ e fr)) (hf : ∀ i, i < cs.length + rest.length → ¬ (fr.1 ≤ i ∧ i < fr.2))
    (hl : RIs S L l cs) (h1 : ∀ v ∈ cs, v.oneCell' = true) (h2 : ∀ v ∈ rest, v.oneCell' = true) (hle : fr.1 ≤ fr.2 := by first | exact Nat.le_refl _ | exact Nat.le_succ _ | assumption) : BRc S L w ⟨b, cs.length + rest.length, cs.length, box⟩ l := by
  refine ⟨cs ++ rest, by simp, hl.length.symm, by simp, fun j v hj => ?_, ⟨fun j hj => ⟨?_, ?_⟩, fun _ c t f hh' => by rw [hh] at hh'; cases hh'; exact hle⟩, ?_, by simpa using hl⟩
  · rw [cell_of_heap hh]; simpa using hj
  · rw [cell_of_heap hh]
    simp only [Nat.zero_add, Option.isSome_iff_exists]
    exact ⟨(cs ++ rest)[j]'(by simp; exact hj), by simp⟩
  · exact frozen_of_heap hh _ (by rw [Nat.zero_add]; exact hf j hj)
  · intro v hv
    rcases List.mem_append.1 hv with h | h
    · exact h1 v h
    · exact h2 v h
theorem new_ext (hi : Inv S L H w) {w' : World} {k : Blk} {l : List IV} (hk : blkCells k = some l) {cs rest : List Value} {e : TypeId} {fr : Nat × Nat} {box : Bool} (hg : Grew w w' (.cells ⟨cs ++ rest⟩ e fr)) (hf : ∀ i, i < cs.length + rest.length → ¬ (fr.1 ≤ i ∧ i < fr.2))
    (hl : RIs S L l cs) (h1 : ∀ v ∈ cs, v.oneCell' = true) (h2 : ∀ v ∈ rest, v.oneCell' = true) (hle : fr.1 ≤ fr.2 := by first | exact Nat.le_refl _ | exact Nat.le_succ _ | assumption) :
    Ext H.length S L w S (addL L H.length ⟨w.heap.size, cs.length + rest.length, cs.length, box⟩) (H ++ [k]) w' :=
  Ext.newBlk hi hg rfl fun L' hL => (BR_cells hk).2 (new_BRc hg.at hf (hl.mono (fun _ _ _ h => h) hL) h1 h2 hle)
theorem mkBlk_cells (l : List IV) : blkCells (mkBlk l) = some l := by
  unfold mkBlk
  split
  · rename_i r hr; rw [allP_some hr]; rfl
  · rfl
theorem hold (hi : Inv S L H w) {lo : Lo} : ∀ i lo', L i = some lo' → addL L H.length lo i = some lo' := addL_old (hi.out _ (Nat.le_refl _))

/-- A new variable. -/
theorem newK_sound (hi : Inv S L H w) (ht : RIs S L t vs) {l : List IV} {cs : List Value} (hl : RIs S L l cs) (h : newK H l K = some out) {e : TypeId}
    (hrun : run = .ok (.value (.pointer (some ⟨w.heap.size, 0, none⟩))) (w.alloc (.cells ⟨cs⟩ e))) : OpOK S L H w t vs run K out := by
  obtain ⟨h1, h2⟩ := chk_some h
  simp only [Bool.and_eq_true] at h1
  have hx := new_ext (box := true) (rest := []) hi (w' := w.alloc (.cells ⟨cs⟩ e)) (mkBlk_cells l) (e := e) (fr := (0, 0)) (by simpa using Grew.alloc w (.cells ⟨cs⟩ e)) (fun i _ => by simp) hl (oneL_rel h1.1 hl) (fun _ h => by cases h)
  exact ⟨_, _, _, h2, _, _, _, .inl hrun, hx, ⟨_, if_pos rfl, rfl, rfl⟩, ht.mono (fun _ _ _ h => h) (hold hi)⟩
/-- A new row. -/
theorem newRow_sound (hi : Inv S L H w) (ht : RIs S L t vs) {q : Ty} {l : List (T q)} {cs rest : List Value} {e : TypeId} {fr : Nat × Nat} {w' : World} (hg : Grew w w' (.cells ⟨cs ++ rest⟩ e fr))
    (hf : ∀ i, i < cs.length + rest.length → ¬ (fr.1 ≤ i ∧ i < fr.2)) (hl : RPs S (cellsL q l) cs) (h1 : ∀ v ∈ cs, v.oneCell' = true) (h2 : ∀ v ∈ rest, v.oneCell' = true)
    {n cap : Nat} (hn : n = l.length) (hc : cap * sizeTy q = cs.length + rest.length) (hnc : n ≤ cap) (h : K (.row H.length (sizeTy q)) none (H ++ [.tc q l]) = some out)
    (hrun : run = .ok (.value (.slice (some ⟨w.heap.size, 0, none⟩) n cap)) w') (hle : fr.1 ≤ fr.2 := by first | exact Nat.le_refl _ | exact Nat.le_succ _ | assumption) : OpOK S L H w t vs run K out := by
  subst hn
  refine ⟨_, _, _, h, _, _, _, .inl hrun, new_ext (box := false) hi rfl hg hf (RIs_mapP.2 hl) h1 h2 hle, ⟨_, if_pos rfl, rfl, _, _, cap, rfl, ?_, hc, hnc, by have := sizeTy_pos q; omega, .inl rfl⟩, ht.mono (fun _ _ _ h => h) (hold hi)⟩
  have := hl.length
  rw [cellsL_len] at this
  exact this.symm
/-- A new row of nothing. -/
theorem newNil_sound (hi : Inv S L H w) (ht : RIs S L t vs) {q : Ty} (h : K (.row H.length (sizeTy q)) none (H ++ [.tc q []]) = some out) (hrun : run = .ok (.value (.slice none 0 0)) w) : OpOK S L H w t vs run K out := by
  refine ⟨_, _, _, h, _, _, _, .inl hrun, Ext.newNil hi fun L' => ?_, ⟨loNil, if_pos rfl, rfl, none, 0, 0, rfl, by simp [loNil], by simp [loNil], Nat.le_refl _, by have := sizeTy_pos q; omega, .inr ⟨rfl, rfl⟩⟩, ht.mono (fun _ _ _ h => h) (hold hi)⟩
  exact BRc.none S L' w rfl rfl

/-! ### Parts of aggregates -/
theorem setCells_fold (cs : List Value) (off : Nat) (xs : List Value) : (xs.zipIdx.foldl (fun (c : Array Value) (p : Value × Nat) => c.setIfInBounds (off + p.2) p.1) ⟨cs⟩) = ⟨over cs off xs⟩ := by
  have key : ∀ (xs : List Value) (cs : List Value) (k : Nat), ((xs.zipIdx k).foldl (fun (c : Array Value) (p : Value × Nat) => c.setIfInBounds (off + p.2) p.1) ⟨cs⟩) = ⟨over cs (off + k) xs⟩ := by
    intro xs
    induction xs with
    | nil => intro cs k; rfl
    | cons x xs ih =>
      intro cs k
      rw [List.zipIdx_cons, List.foldl_cons]
      have : (⟨cs⟩ : Array Value).setIfInBounds (off + k) x = ⟨cs.set (off + k) x⟩ := by simp
      rw [this, ih, over, Nat.add_assoc]
  exact key xs cs 0
/-- The parts' values. -/
def RIq (S : Mem) (L : Locs) : List (Nat × IV) → List (Nat × Value) → Prop
  | [], qs => qs = []
  | (i, x) :: l, qs => ∃ v r, qs = (i, v) :: r ∧ RI S L x v ∧ RIq S L l r
theorem fill_sound {place : Nat → Option (Nat × Nat)} {ps : List (Nat × IV)} {qs : List (Nat × Value)} (hq : RIq S L ps qs) (hu : noUndef ps = true) {l l' : List IV} {cs : List Value} (hl : RIs S L l cs) (h : fillI place ps l = some l') :
    ∃ cs', Instr.fill place ⟨cs⟩ qs = some ⟨cs'⟩ ∧ RIs S L l' cs' := by
  induction ps generalizing l cs qs with
  | nil =>
    simp only [RIq] at hq
    subst hq
    simp only [fillI, Option.some.injEq] at h
    subst h
    exact ⟨cs, rfl, hl⟩
  | cons p ps ih =>
    obtain ⟨i, x⟩ := p
    obtain ⟨v, r, rfl, h1, h2⟩ := hq
    have hx : x ≠ .undef := by rintro rfl; simp [noUndef] at hu
    have hu' : noUndef ps = true := by cases x <;> simp_all [noUndef]
    simp only [fillI] at h
    split at h
    · rename_i off n hp
      split at h
      · rename_i hc
        have hcx := cellsI_rel hx h1
        obtain ⟨cs', h3, h4⟩ := ih h2 hu' (RIs_over off hl hcx) h
        refine ⟨cs', ?_, h4⟩
        simp only [Instr.fill, hp]
        have e1 : v.cells.size = n := by rw [← hc.1, ← Array.length_toList, hcx.length]
        have e2 : cs.length = l.length := hl.length
        rw [if_neg (by simp; omega)]
        rw [← h3]
        congr 1
        have := setCells_fold cs off v.cells.toList
        rw [← this, ← Array.toList_zipIdx, Array.foldl_toList]
      · cases h
    · cases h
theorem evParts_rel {a : Act} (ht : RIs S L t a.tmps.toList) (ps : List (Nat × Operand)) : RIq S L (evParts t ps) (ps.map fun p => (p.1, a.eval p.2)) := by
  induction ps with
  | nil => rfl
  | cons p ps ih => obtain ⟨i, x⟩ := p; exact ⟨_, _, rfl, ev_rel ht x, ih⟩
theorem placesL_some {fs : List Field} {pl : List (Nat × Nat)} (h : placesL P fs = some pl) : fs.mapM (fun f => (P.info? f.type).map fun i => (f.offset, i.size)) = some pl := by
  induction fs generalizing pl with
  | nil => simp [placesL] at h; subst h; rfl
  | cons f fs ih =>
    simp only [placesL] at h
    split at h
    · rename_i n r h1 h2
      cases h
      obtain ⟨i, h3, rfl⟩ := sizeT_some h1
      simp [List.mapM_cons, h3, ih h2]
    · cases h
theorem RIs_self (cs : List Value) : RIs S L (cellsI (.p (.v (.agg ⟨cs⟩)))) cs := RIs_mapP.2 (RPs_mapV cs)
theorem cells_self (z : Value) : RIs S L (cellsI (.p (.v z))) z.cells.toList := cellsI_rel (by simp) rfl
theorem build_sound {ty : TypeId} {ps : List (Nat × IV)} {qs : List (Nat × Value)} (hq : RIq S L ps qs) (hu : noUndef ps = true) {l : List IV} (h : buildI P ty ps = some l) :
    ∃ cs, P.built ty qs = some ⟨cs⟩ ∧ RIs S L l cs := by
  unfold buildI at h
  split at h
  · rename_i z hz
    obtain ⟨it, h1, h2⟩ := zeroT_some hz
    have hz' : RIs S L (cellsI (.p (.v z))) z.cells.toList := cells_self z
    split at h
    · rename_i fs hu2
      split at h
      · rename_i pl hpl
        obtain ⟨cs, h3, h4⟩ := fill_sound hq hu hz' h
        refine ⟨cs, ?_, h4⟩
        have hp := placesL_some hpl
        unfold Program.built
        simp only [h1, hu2, h2, hp]
        simpa using h3
      · cases h
    · rename_i n e hu2
      split at h
      · rename_i m hm
        obtain ⟨ie, h5, rfl⟩ := sizeT_some hm
        obtain ⟨cs, h3, h4⟩ := fill_sound hq hu hz' h
        refine ⟨cs, ?_, h4⟩
        unfold Program.built
        simp only [h1, hu2, h2, h5]
        exact h3
      · cases h
    · cases h
  · cases h
theorem repL_get {α : Type} (l : List α) (n i : Nat) (h : i < n * l.length) : (repL l n)[i]? = l[i % l.length]? := by
  induction n generalizing i with
  | zero => omega
  | succ n ih =>
    have hp : 0 < l.length := by
      rcases Nat.eq_zero_or_pos l.length with e | e
      · rw [e] at h; omega
      · exact e
    rw [repL, List.getElem?_append]
    split
    · rename_i h1; rw [Nat.mod_eq_of_lt h1]
    · rename_i h1
      rw [ih (i - l.length) (by rw [Nat.succ_mul] at h; omega)]
      rw [Nat.mod_eq_sub_mod (by omega : l.length ≤ i)]
theorem repL_length {α : Type} (l : List α) (n : Nat) : (repL l n).length = n * l.length := by
  induction n with
  | zero => simp [repL]
  | succ n ih => simp [repL, ih, Nat.succ_mul, Nat.add_comm]
theorem RIs_repL {l : List IV} {cs : List Value} (h : RIs S L l cs) (n : Nat) : RIs S L (repL l n) (repL cs n) := by
  induction n with
  | zero => simp [repL, RIs]
  | succ n ih => exact h.append ih
theorem range_repL (z : Array Value) (n : Nat) : (Array.range (n * z.size)).map (z[· % z.size]!) = ⟨repL z.toList n⟩ := by
  apply Array.ext'
  apply List.ext_getElem?
  intro i
  simp only [Array.toList_map, Array.toList_range, List.getElem?_map]
  by_cases hi : i < n * z.size
  · rw [List.getElem?_range hi, repL_get _ _ _ (by simpa using hi)]
    have hp : 0 < z.size := by
      rcases Nat.eq_zero_or_pos z.size with e | e
      · rw [e] at hi; omega
      · exact e
    have hm : i % z.size < z.size := Nat.mod_lt _ hp
    simp [hm]
  · rw [List.getElem?_eq_none (by simp; omega), List.getElem?_eq_none (by rw [repL_length]; simp; omega)]
    rfl
theorem buildS_sound {ty : TypeId} {len : Nat} {ps : List (Nat × IV)} {qs : List (Nat × Value)} (hq : RIq S L ps qs) (hu : noUndef ps = true) {sz : Nat} {l : List IV} (h : buildS P ty len ps = some (sz, l)) (hs : isSliceT P ty = true) :
    ∃ cs e, RIs S L l cs ∧ cs.length = len * sz ∧ sz ≠ 0 ∧ ∀ w : World, (Instr.buildSlice ty len qs.toArray).run P w = .ok (.slice (some ⟨w.heap.size, 0, none⟩) len len) (w.alloc (.cells ⟨cs⟩ e)) := by
  obtain ⟨e, hue⟩ := isSliceT_some hs
  unfold buildS at h
  have he : elemT P ty = some e := by simp [elemT, hue]
  rw [he] at h
  cases hsz : elemSz P ty with
  | none => simp [hsz] at h
  | some n =>
    obtain ⟨i, h1, h2, h3⟩ := elemSz_slice hue hsz
    simp only [hsz] at h
    split at h
    · rename_i hlim
      split at h
      · rename_i z hz
        obtain ⟨i', h1', h4⟩ := zeroT_some hz
        rw [h1] at h1'; cases h1'
        split at h
        · rename_i hzs
          split at h
          · rename_i l' hf
            cases h
            obtain ⟨cs, h5, h6⟩ := fill_sound hq hu (RIs_repL (cells_self z) len) hf
            have hlen : cs.length = len * sz := by
              have := h6.length
              have e2 : ∀ (ps : List (Nat × IV)) (l0 l1 : List IV), fillI (fun i => some (i * sz, sz)) ps l0 = some l1 → l1.length = l0.length := by
                intro ps
                induction ps with
                | nil => intro l0 l1 h; simp only [fillI, Option.some.injEq] at h; rw [h]
                | cons p ps ih =>
                  intro l0 l1 h
                  obtain ⟨j, x⟩ := p
                  simp only [fillI] at h
                  split at h
                  · rw [ih _ _ h, over_length]
                  · cases h
              rw [this, e2 _ _ _ hf, repL_length, ← (cells_self (S := S) (L := L) z).length]
              simp [hzs]
            refine ⟨cs, e, h6, hlen, h3, fun w => ?_⟩
            have hz2 := range_repL z.cells len
            rw [hzs] at hz2
            have hlim' : ¬ (16777216 < len * sz) := by omega
            by_cases h0 : len * sz = 0
            · have hl0 : len = 0 := by
                rcases Nat.mul_eq_zero.1 h0 with e | e
                · exact e
                · omega
              subst hl0
              have hcs : cs = [] := List.eq_nil_of_length_eq_zero (by rw [hlen]; simp)
              subst hcs
              have h5' : Instr.fill (fun i => some (i * sz, sz)) #[] qs = some #[] := by simpa [repL] using h5
              simp [Instr.buildSlice, run_underlying hue, sizeOf, typeInfo, h1, h2, newRow]
              have e0 : Array.map (fun _ => (default : Value)) (Array.range 0) = #[] := by simp
              rw [e0, h5']
              rfl
            · have h5' : Instr.fill (fun i => some (i * sz, sz)) (Array.map (fun x => z.cells[x % z.cells.size]!) (Array.range (len * sz))) qs = some ⟨cs⟩ := by
                rw [hzs, hz2]; exact h5
              have h0' : ¬ (len = 0 ∨ sz = 0) := fun q => h0 (Nat.mul_eq_zero.2 q)
              simp [Instr.buildSlice, run_underlying hue, sizeOf, typeInfo, zeroValue, h1, h2, h4, newRow, hlim', h0', h5']
              intro hq; exact absurd hq h0
          · cases h
        · cases h
      · cases h
    · cases h
end
end Go.Proofs.YtfaofikhabccoaaGreatDoor.Jv
