/- The ideal machine's stores, appends, slices and conversions; conditions: none. -/
import Derived.Test.YtgldfdpdjlohiaaDoorIvOps2
namespace Go.Proofs.YtgldfdpdjlohiaaDoor.Iv
open Go Go.RowKit
section
variable {P : Program} {S : Mem} {L : Locs} {H : Hp} {w : World} {t : List IV} {vs : List Value} {run : Result Next} {K : IV → Option Nat → Hp → R} {out : IV × Hp}

/-! ### Stores -/
theorem BRc_pc {lo : Lo} {l : List PV} (h : BRc S L w lo (l.map .p)) : BR S L w lo (.pc l) := h
theorem store_sound (hi : Inv S L H w) {b off n : Nat} {lo : Lo} (hl : L b = some lo) {y : IV} {v : Value} (hy : RI S L y v) {Kh : Hp → R} (h : storeK H n b off y Kh = some out) {ty : TypeId} (hs : sizeT P ty = some n) :
    ∃ H', Kh H' = some out ∧ ∃ w', (Instr.storeAt ty (.pointer (some ⟨lo.blk, off, none⟩)) v).run P w = .ok () w' ∧ Ext H.length S L w S L H' w' := by
  unfold storeK at h
  split at h
  · rename_i hn
    obtain ⟨h1, h2⟩ := chk_some h
    split at h2
    · rename_i H' hst
      refine ⟨H', h2, w.setCells lo.blk off v.cells.toList, ?_⟩
      have hcs := cellsI_rel (oneI_ne h1) hy
      have hone := oneL_rel h1 hcs
      obtain ⟨o1, o2, o3, o4, o5⟩ := World.os_setCells lo.blk v.cells.toList off w
      obtain ⟨i, hi1, hi2⟩ := sizeT_some hs
      have hsz : v.cells.size = n := by rw [← hn, ← Array.length_toList, hcs.length]
      have key : ∀ (c : List IV), BRc S L w lo c → off + (cellsI y).length ≤ c.length →
          (Instr.storeAt ty (.pointer (some ⟨lo.blk, off, none⟩)) v).run P w = .ok () (w.setCells lo.blk off v.cells.toList) ∧ BRc S L (w.setCells lo.blk off v.cells.toList) lo (over c off (cellsI y)) := by
        rintro c ⟨cs, e1, e2, e3, e4, e5, e6, e7⟩ hle
        have hoff : off + v.cells.toList.length ≤ lo.len := by rw [hcs.length, ← e2]; exact hle
        have hth : w.there lo.blk off v.cells.size := fun j hj => by
          have := e5 (off + j) (by rw [← Array.length_toList] at hj; omega)
          simpa using this
        refine ⟨?_, over cs off v.cells.toList, by rw [over_length, e1], by rw [over_length, e2], e3, rangeAt_over e4 off _ (by omega), World.there_setCells e5 _ _ _, ?_, ?_⟩
        · have := run_storeCells_cells (P := P) lo.blk off v.cells.toList 0 w (fun j hj => by simpa using (hth j (by simpa using hj)).1) (fun j hj => by simpa using (hth j (by simpa using hj)).2) hone
          simp only [Nat.add_zero] at this
          simp [Instr.storeAt, Instr.sureAddr, storeVar, sizeOf, typeInfo, hi1, hi2, hsz, this]
        · intro u hu
          obtain ⟨j, hj, rfl⟩ := List.getElem_of_mem hu
          have hg := over_get cs off v.cells.toList (by omega) j
          rw [List.getElem?_eq_getElem hj] at hg
          split at hg
          · have hm := List.mem_of_getElem? hg.symm; exact hone _ hm
          · have hm := List.mem_of_getElem? hg.symm; exact e6 _ hm
        · rw [over_take _ _ _ _ hoff (by omega)]
          exact RIs_over off e7 hcs
      unfold storeI at hst
      have hblen : ∀ k, H[b]? = some k → b < H.length := fun k hk => (List.getElem?_eq_some_iff.1 hk).1
      split at hst
      · rename_i c hb
        rcases hi.blk b _ hb with e | ⟨lo', e1, e2⟩
        · cases e
        rw [hl] at e1; cases e1
        split at hst
        · rename_i hle
          obtain ⟨r1, r2⟩ := key _ e2 (by simpa using hle)
          split at hst
          · rename_i ps hps
            cases hst
            rw [allP_some hps, ← over_map] at r2
            exact ⟨r1, Ext.put hi hl o1 o2 o3 o4 o5 (hblen _ hb) (BRc_pc r2)⟩
          · cases hst
            exact ⟨r1, Ext.put hi hl o1 o2 o3 o4 o5 (hblen _ hb) r2⟩
        · cases hst
      · rename_i c hb
        rcases hi.blk b _ hb with e | ⟨lo', e1, e2⟩
        · cases e
        rw [hl] at e1; cases e1
        split at hst
        · rename_i hle
          obtain ⟨r1, r2⟩ := key _ e2 hle
          cases hst
          exact ⟨r1, Ext.put hi hl o1 o2 o3 o4 o5 (hblen _ hb) r2⟩
        · cases hst
      · cases hst
    · cases h2
  · cases h

/-! ### A row's cells -/
/-- The cells that a slice leads to, as far as they are told. -/
theorem rowCells_rel (hi : Inv S L H w) {x : IV} {v : Value} (hx : RI S L x v) {n : Nat} {l : List PV} (h : rowCells H x = some (n, l)) :
    ∃ a cap cs, v = .slice a n cap ∧ n ≤ cap ∧ RPs S l cs ∧ (∀ c ∈ cs, c.oneCell' = true) ∧ (l = [] ∨ ∃ b o, a = some ⟨b, o, none⟩ ∧ b < w.heap.size ∧ w.rangeAt b o cs) := by
  unfold rowCells at h
  split at h
  · rename_i m c
    cases h
    obtain ⟨a, cap, rfl, h1, h2⟩ := hx
    rcases h2 with ⟨rfl, rfl⟩ | ⟨b, o, rfl, h2⟩
    · exact ⟨a, cap, [], rfl, h1, by simp [RPs], (fun _ h => by cases h), .inl rfl⟩
    · obtain ⟨cs, h3, h4⟩ := RPm_range h2
      refine ⟨_, cap, cs, rfl, h1, h3, fun c hc => ?_, ?_⟩
      · obtain ⟨j, hj, rfl⟩ := List.getElem_of_mem hc
        exact (hi.sta _ _ _ (h4 j _ (List.getElem?_eq_getElem hj))).2.1
      · cases l with
        | nil => exact .inl rfl
        | cons p l =>
          obtain ⟨c, r, rfl, _, _⟩ := h3
          exact .inr ⟨b, o, rfl, (hi.sta _ _ _ (h4 0 c rfl)).2.2.1, fun j v hj => (hi.sta _ _ _ (h4 j v hj)).1⟩
  · cases h
    simp only [RI, RP] at hx
    subst hx
    exact ⟨none, 0, [], rfl, Nat.le_refl _, by simp [RPs], (fun _ h => by cases h), .inl rfl⟩
  · rename_i b sz m
    split at h
    · rename_i c hb
      cases h
      obtain ⟨lo, e1, e2, cap, rfl, e3, e4, e5, e6⟩ := hx
      rcases hi.blk b _ hb with e | ⟨lo', e7, cs, f1, f2, f3, f4, f5, f6, f7⟩
      · cases e
      rw [e1] at e7; cases e7
      refine ⟨_, cap, cs.take lo.len, rfl, e5, RIs_mapP.1 f7, fun c hc => f6 c (List.mem_of_mem_take hc), .inr ⟨_, _, rfl, hi.inh _ _ e1, rangeAt_take f4 _⟩⟩
    · cases h
  · rename_i b sz off m
    split at h
    · rename_i c hb
      cases h
      obtain ⟨lo, e1, e2, a, cap, rfl, e3, e4, e5, e6⟩ := hx
      rcases hi.blk b _ hb with e | ⟨lo', e7, cs, f1, f2, f3, f4, f5, f6, f7⟩
      · cases e
      rw [e1] at e7; cases e7
      refine ⟨a, cap, sub (cs.take lo.len) off (n * sz), rfl, e3, ((RIs_mapP.1 f7).drop off).take _, fun c hc => f6 c (List.mem_of_mem_take (List.mem_of_mem_drop (List.mem_of_mem_take hc))), ?_⟩
      rcases e6 with rfl | rfl
      · left; simp [sub]
      · right
        refine ⟨_, _, rfl, hi.inh _ _ e1, ?_⟩
        have := rangeAt_take (rangeAt_drop (rangeAt_take f4 lo.len) off) (n * sz)
        rwa [Nat.zero_add] at this
    · cases h
  · cases h
theorem encB_rel (l : List UInt8) : RPs S (encB l) (l.map fun b => .int .u8 (b.toNat : Int)) := by
  unfold encB
  have : (l.map fun b => PV.v (.int .u8 (b.toNat : Int))) = (l.map fun b => Value.int .u8 (b.toNat : Int)).map .v := by simp
  rw [this]
  exact RPs_mapV _
/-- What an append takes. -/
theorem srcCells_rel (hi : Inv S L H w) {x : IV} {v : Value} (hx : RI S L x v) {m : Nat} {l : List IV} {size : Nat} (h : srcCells H size x = some (m, l, true)) {tx : TypeId}
    (hstr : (∃ s, x = .p (.v (.string s))) → P.underlying tx = some .string) (hsl : ¬ (∃ s, x = .p (.v (.string s))) → ∃ e', P.underlying tx = some (.slice e')) :
    ∃ news, RIs S L l news ∧ Src P size tx v m news w := by
  unfold srcCells at h
  split at h
  · rename_i s
    simp only [Option.some.injEq, Prod.mk.injEq, beq_iff_eq] at h
    obtain ⟨rfl, rfl, rfl⟩ := h
    simp only [RI, RP] at hx
    subst hx
    exact ⟨byteCells s, RIs_mapP.2 (encB_rel _), Src.ofString w (hstr ⟨s, rfl⟩) s⟩
  · rename_i b sz n
    obtain ⟨e', he'⟩ := hsl (by rintro ⟨s, hs⟩; cases hs)
    have fin : ∀ c, H[b]? = some c → ∀ l', blkCells c = some l' → n = m → l' = l → sz = size → ∃ news, RIs S L l news ∧ Src P size tx v m news w := by
      rintro c hb l' hl' rfl rfl rfl
      obtain ⟨lo, e1, e2, cap, rfl, e3, e4, e5, e6⟩ := hx
      have hbr : BRc S L w lo l' := by
        rcases hi.blk b _ hb with rfl | ⟨lo', e7, h8⟩
        · cases hl'
        · rw [e1] at e7; cases e7
          cases c <;> simp only [blkCells] at hl' <;> cases hl' <;> exact h8
      obtain ⟨cs, f1, f2, f3, f4, f5, f6, f7⟩ := hbr
      refine ⟨cs.take lo.len, f7, Src.ofSlice w he' _ _ _ _ ?_ ?_ fun u hu => f6 u (List.mem_of_mem_take hu)⟩
      · rw [f7.length, f2, e3]
      · intro j u hj
        have := rangeAt_take f4 lo.len j u hj
        rw [Addr.add_mid]
        exact this
    split at h
    · rename_i c hb
      simp only [Option.some.injEq, Prod.mk.injEq, beq_iff_eq] at h
      exact fin _ hb _ rfl h.1 h.2.1 h.2.2
    · rename_i c hb
      simp only [Option.some.injEq, Prod.mk.injEq, beq_iff_eq] at h
      exact fin _ hb _ rfl h.1 h.2.1 h.2.2
    · cases h
  · rename_i hns hnr
    split at h
    · rename_i n l' hr
      simp only [Option.some.injEq, Prod.mk.injEq, decide_eq_true_eq] at h
      obtain ⟨rfl, rfl, hlen⟩ := h
      obtain ⟨a, cap, cs, rfl, h1, h2, h3, h4⟩ := rowCells_rel hi hx hr
      obtain ⟨e', he'⟩ := hsl (by rintro ⟨s, rfl⟩; exact hns s rfl)
      refine ⟨cs, RIs_mapP.2 h2, ?_⟩
      have hl : cs.length = n * size := by rw [h2.length, ← hlen]
      rcases h4 with rfl | ⟨b, o, rfl, _, h5⟩
      · have : cs = [] := by simpa [RPs] using h2
        subst this
        cases a with
        | none =>
          have hm : n = 0 ∨ size = 0 := by simpa [eq_comm, Nat.mul_eq_zero] using hl
          refine ⟨.inl ⟨e', he'⟩, fun _ => rfl, ?_, ?_, hl, h3⟩ <;> simp [Builtin.firstCells]
        | some a => exact Src.ofSlice w he' a n cap [] hl (fun j u hj => by simp at hj) h3
      · exact Src.ofSlice w he' _ n cap cs hl (fun j u hj => by rw [Addr.add_mid]; exact h5 j u hj) h3
    · cases h
end
end Go.Proofs.YtgldfdpdjlohiaaDoor.Iv
