/- The ideal machine's stores, appends, slices and conversions; conditions: none. -/
import Derived.Test.YtfaofikhabccoaaGreatDoorJvOps2
namespace Go.Proofs.YtfaofikhabccoaaGreatDoor.Jv
open Go Go.RowKit
set_option linter.unusedVariables false
set_option linter.unusedSimpArgs false
section
variable {ρ : Type} {P : Program} {S : Mem} {L : Locs} {H : Hp} {w : World} {t : List IV} {vs : List Value} {run : Result Next} {K : IV → Option Nat → Hp → Option ρ} {out : ρ}

/-! ### Stores -/
theorem BRc_pc {lo : Lo} {l : List PV} (h : BRc S L w lo (l.map .p)) : BR S L w lo (.pc l) := h
theorem store_sound (hi : Inv S L H w) {b off n : Nat} {lo : Lo} (hl : L b = some lo) {y : IV} {v : Value} (hy : RI S L y v) {Kh : Hp → Option ρ} (h : storeK H n b off y Kh = some out) {ty : TypeId} (hs : sizeT P ty = some n) :
    ∃ H', Kh H' = some out ∧ ∃ w', (Instr.storeAt ty (.pointer (some ⟨lo.blk, off, none⟩)) v).run P w = .ok () w' ∧ Ext H.length S L w S L H' w' := by
  unfold storeK at h
  split at h
  · rename_i hn'
    obtain ⟨hn, hn0⟩ := hn'
    obtain ⟨h1, h2⟩ := chk_some h
    split at h2
    · rename_i H' hst
      refine ⟨H', h2, w.setCells lo.blk off v.cells.toList, ?_⟩
      have hcs := cellsI_rel (oneI_ne h1) hy
      have hone := oneL_rel h1 hcs
      obtain ⟨o1, o2, o3, o4, o5⟩ := World.os_setCells lo.blk v.cells.toList off w
      obtain ⟨i, hi1, hi2⟩ := sizeT_some hs
      have hsz : v.cells.size = n := by rw [← hn, ← Array.length_toList, hcs.length]
      have key : ∀ (c : List IV), BRc S L w lo c → off + (cellsI y).length ≤ c.length →
          (Instr.storeAt ty (.pointer (some ⟨lo.blk, off, none⟩)) v).run P w = .ok () (w.setCells lo.blk off v.cells.toList) ∧ BRc S L (w.setCells lo.blk off v.cells.toList) lo (over c off (cellsI y)) := by
        rintro c ⟨cs, e1, e2, e3, e4, e5, e6, e7⟩ hle
        have hoff : off + v.cells.toList.length ≤ lo.len := by rw [hcs.length, ← e2]; exact hle
        have hth : w.there lo.blk off v.cells.size := fun j hj => by
          have := e5.1 (off + j) (by rw [← Array.length_toList] at hj; omega)
          simpa using this
        refine ⟨?_, over cs off v.cells.toList, by rw [over_length, e1], by rw [over_length, e2], e3, rangeAt_over e4 off _ (by omega), ⟨World.there_setCells e5.1 _ _ _, fun h0 => frOK_setCells _ _ _ _ (e5.2 h0)⟩, ?_, ?_⟩
        · have := run_storeCells_cells (P := P) lo.blk off v.cells.toList 0 w (fun j hj => by simpa using (hth j (by simpa using hj)).1) (fun j hj => by simpa using (hth j (by simpa using hj)).2) hone
          simp only [Nat.add_zero] at this
          simp [Instr.storeAt, Instr.sureAddr, storeVar, sizeOf, typeInfo, hi1, hi2, hsz, this]
        · intro u hu
          obtain ⟨j, hj, rfl⟩ := List.getElem_of_mem hu
          have hg := over_get cs off v.cells.toList (by omega) j
          rw [List.getElem?_eq_getElem hj] at hg
          split at hg
          · have hm := List.mem_of_getElem? hg.symm; exact hone _ hm
          · have hm := List.mem_of_getElem? hg.symm; exact e6 _ hm
        · rw [over_take _ _ _ _ hoff (by omega)]
          exact RIs_over off e7 hcs
      unfold storeI at hst
      have hblen : ∀ k, H[b]? = some k → b < H.length := fun k hk => (List.getElem?_eq_some_iff.1 hk).1
      split at hst
      · rename_i c hb
        rcases hi.blk b _ hb with e | ⟨lo', e1, e2⟩
        · cases e
        rw [hl] at e1; cases e1
        split at hst
        · rename_i hle
          obtain ⟨r1, r2⟩ := key _ e2 (by simpa using hle)
          split at hst
          · rename_i ps hps
            cases hst
            have hz : lo.size ≠ 0 := by obtain ⟨_, _, e2, e3, _⟩ := e2; simp only [List.length_map] at e2; omega
            rw [allP_some hps, ← over_map] at r2
            exact ⟨r1, Ext.put hi hl hz o1 o2 o3 o4 o5 (hblen _ hb) (BRc_pc r2)⟩
          · cases hst
            have hz : lo.size ≠ 0 := by obtain ⟨_, _, e2, e3, _⟩ := e2; simp only [List.length_map] at e2; omega
            exact ⟨r1, Ext.put hi hl hz o1 o2 o3 o4 o5 (hblen _ hb) r2⟩
        · cases hst
      · rename_i c hb
        rcases hi.blk b _ hb with e | ⟨lo', e1, e2⟩
        · cases e
        rw [hl] at e1; cases e1
        split at hst
        · rename_i hle
          obtain ⟨r1, r2⟩ := key _ e2 hle
          cases hst
          have hz : lo.size ≠ 0 := by obtain ⟨_, _, e2, e3, _⟩ := e2; omega
          exact ⟨r1, Ext.put hi hl hz o1 o2 o3 o4 o5 (hblen _ hb) r2⟩
        · cases hst
      · cases hst
    · cases h2
  · cases h

theorem oneI_ne' {x : IV} (_ : oneL (cellsI x) = true) (h : x ≠ .undef) : x ≠ .undef := h
theorem RPs_set {l : List PV} {vs : List Value} (h : RPs S l vs) (i : Nat) {x : PV} {v : Value} (hx : RP S x v) : RPs S (l.set i x) (vs.set i v) := by
  have := (RIs_mapP (L := fun _ => none).2 h).set i (x := .p x) hx
  rw [← List.map_set] at this
  exact RIs_mapP.1 this
theorem RPs_over {l : List PV} {vs : List Value} {xs : List PV} {us : List Value} (off : Nat) (h : RPs S l vs) (k : RPs S xs us) : RPs S (over l off xs) (over vs off us) := by
  have := RIs_over off (RIs_mapP (L := fun _ => none).2 h) (RIs_mapP.2 k)
  rw [← over_map] at this
  exact RIs_mapP.1 this
theorem over_over {α : Type} (cs vc : List α) (a sz off : Nat) (h1 : off + vc.length ≤ sz) (h2 : a + sz ≤ cs.length) : over cs a (over ((cs.drop a).take sz) off vc) = over cs (a + off) vc := by
  have hl : (over ((cs.drop a).take sz) off vc).length = sz := by rw [over_length]; simp; omega
  apply List.ext_getElem?
  intro j
  rw [over_get cs a _ (by rw [hl]; exact h2), over_get cs (a + off) vc (by omega), hl]
  by_cases hj : a ≤ j ∧ j < a + sz
  · rw [if_pos hj, over_get _ off vc (by simp; omega)]
    by_cases hk : off ≤ j - a ∧ j - a < off + vc.length
    · rw [if_pos hk, if_pos (by omega)]
      congr 1; omega
    · rw [if_neg hk, if_neg (by omega), List.getElem?_take, if_pos (by omega), List.getElem?_drop]
      congr 1; omega
  · rw [if_neg hj, if_neg (by omega)]
theorem storeE_sound (hi : Inv S L H w) {b sz j off n : Nat} {lo : Lo} (hl : L b = some lo) {y : IV} {v : Value} (hy : RI S L y v) {Kh : Hp → Option ρ} (h : storeE H n b sz j off y Kh = some out) {ty : TypeId} (hs : sizeT P ty = some n) :
    ∃ H', Kh H' = some out ∧ ∃ w', (Instr.storeAt ty (.pointer (some ⟨lo.blk, j * sz + off, none⟩)) v).run P w = .ok () w' ∧ Ext H.length S L w S L H' w' := by
  unfold storeE at h
  split at h
  · rename_i t l hb
    split at h
    · rename_i hc
      obtain ⟨rfl, hn, hoff⟩ := hc
      split at h
      · rename_i ps hps
        obtain ⟨h1, h⟩ := chk_some h
        obtain ⟨x, hx, h⟩ := getK_some h
        obtain ⟨x', r, h2, h3, h4⟩ := decT_sound t h
        split at h2
        · rename_i hr
          refine ⟨_, h2, w.setCells lo.blk (j * sizeTy t + off) v.cells.toList, ?_⟩
          have hcs := cellsI_rel (oneI_ne' h1 (by
            intro e
            rw [e] at hps
            simp [cellsI, allP] at hps)) hy
          have hone := oneL_rel h1 hcs
          obtain ⟨o1, o2, o3, o4, o5⟩ := World.os_setCells lo.blk v.cells.toList (j * sizeTy t + off) w
          obtain ⟨i, hi1, hi2⟩ := sizeT_some hs
          have hsz : v.cells.size = n := by rw [← hn, ← Array.length_toList, hcs.length]
          rcases hi.blk b _ hb with e | ⟨lo', e1, cs, e2, e3, e4, e5, e6, e7, e8⟩
          · cases e
          rw [hl] at e1; cases e1
          have e3' : l.length * sizeTy t = lo.len := by rw [← e3, List.length_map, cellsL_len]
          have hjl : j < l.length := (List.getElem?_eq_some_iff.1 hx).1
          have hjs : (j + 1) * sizeTy t ≤ lo.len := by rw [← e3']; exact Nat.mul_le_mul_right _ hjl
          rw [Nat.add_mul, Nat.one_mul] at hjs
          have hvl : v.cells.toList.length = n := by rw [Array.length_toList, hsz]
          have hpos := sizeTy_pos t
          have hth : w.there lo.blk (j * sizeTy t + off) v.cells.size := fun q hq => by
            have := e6.1 (j * sizeTy t + off + q) (by omega)
            simpa using this
          have hcsT : RPs S (cellsL t l) (cs.take lo.len) := RIs_mapP.1 e8
          have hcx : RPs S (cellsT t x) (((cs.take lo.len).drop (j * sizeTy t)).take (sizeTy t)) := by
            have := (hcsT.drop (j * sizeTy t)).take (sizeTy t)
            rwa [cellsL_get hx] at this
          have hvc : RPs S ps v.cells.toList := by
            rw [allP_some hps] at hcs
            exact RIs_mapP.1 hcs
          have h5 := h4 S _ (RPs_over off hcx hvc)
          rw [List.append_nil] at h5
          have h6 := RPs_over (j * sizeTy t) hcsT h5
          rw [← cellsL_set, over_over _ _ _ _ _ (by omega) (by simp; omega), ← over_take _ _ _ _ (by omega) (by omega)] at h6
          refine ⟨?_, Ext.put hi hl (by omega) o1 o2 o3 o4 o5 (List.getElem?_eq_some_iff.1 hb).1 ⟨over cs (j * sizeTy t + off) v.cells.toList, by rw [over_length, e2], ?_, e4, rangeAt_over e5 _ _ (by omega), ⟨World.there_setCells e6.1 _ _ _, fun h0 => frOK_setCells _ _ _ _ (e6.2 h0)⟩, ?_, RIs_mapP.2 h6⟩⟩
          · have := run_storeCells_cells (P := P) lo.blk (j * sizeTy t + off) v.cells.toList 0 w (fun j hj => by simpa using (hth j (by simpa using hj)).1) (fun j hj => by simpa using (hth j (by simpa using hj)).2) hone
            simp only [Nat.add_zero] at this
            simp [Instr.storeAt, Instr.sureAddr, storeVar, sizeOf, typeInfo, hi1, hi2, hsz, this]
          · rw [List.length_map, cellsL_len, List.length_set, e3']
          · intro u hu
            obtain ⟨q, hq, rfl⟩ := List.getElem_of_mem hu
            have hg := over_get cs (j * sizeTy t + off) v.cells.toList (by omega) q
            rw [List.getElem?_eq_getElem hq] at hg
            split at hg
            · have hm := List.mem_of_getElem? hg.symm; exact hone _ hm
            · have hm := List.mem_of_getElem? hg.symm; exact e7 _ hm
        · cases h2
      · cases h
    · cases h
  · cases h

/-! ### A slice's elements -/
/-- The elements that a slice leads to. -/
theorem srcT_sound (hi : Inv S L H w) {x : IV} {v : Value} (hx : RI S L x v) {q : Ty} {Kl : List (T q) → Option ρ} (h : srcT H q x Kl = some out) :
    ∃ l, Kl l = some out ∧ ∃ a cap cs, v = .slice a l.length cap ∧ l.length ≤ cap ∧ RPs S (cellsL q l) cs ∧ (∀ c ∈ cs, c.oneCell' = true) ∧ (l = [] ∨ ∃ b o, a = some ⟨b, o, none⟩ ∧ b < w.heap.size ∧ w.rangeAt b o cs) := by
  unfold srcT at h
  split at h
  · rename_i y
    split at h
    · rename_i l hl
      refine ⟨l, h, ?_⟩
      unfold asSl at hl
      split at hl
      · rename_i t' l'
        split at hl
        · rename_i e; subst e
          have hl2 : l' = l := Option.some.inj hl
          subst hl2
          obtain ⟨a, cap, rfl, h1, h2⟩ := RP_sl.1 hx
          rcases h2 with rfl | ⟨b, o, rfl, h2⟩
          · exact ⟨a, cap, [], rfl, h1, by simp [cellsL, RPs], (fun _ h => by cases h), .inl rfl⟩
          · obtain ⟨cs, h3, h4⟩ := RPm_range h2
            refine ⟨_, cap, cs, rfl, h1, h3, fun c hc => ?_, ?_⟩
            · obtain ⟨j, hj, rfl⟩ := List.getElem_of_mem hc
              exact (hi.sta _ _ _ (h4 j _ (List.getElem?_eq_getElem hj))).2.1
            · cases l' with
              | nil => exact .inl rfl
              | cons p l =>
                have hne : 0 < cs.length := by
                  rw [h3.length, cellsL_len]
                  have := sizeTy_pos t'
                  simp only [List.length_cons, Nat.add_mul, Nat.one_mul]; omega
                exact .inr ⟨b, o, rfl, (hi.sta _ _ _ (h4 0 _ (List.getElem?_eq_getElem hne))).2.2.1, fun j v hj => (hi.sta _ _ _ (h4 j v hj)).1⟩
        · cases hl
      · cases hl
        simp only [RI, RP] at hx
        subst hx
        exact ⟨none, 0, [], rfl, Nat.le_refl _, by simp [cellsL, RPs], (fun _ h => by cases h), .inl rfl⟩
      · cases hl
    · cases h
  · rename_i b sz
    split at h
    · rename_i t l hb
      split at h
      · rename_i e
        subst e
        split at h
        · rename_i e; subst e
          refine ⟨l, h, ?_⟩
          obtain ⟨lo, e1, e2, a, n, cap, rfl, e3, e4, e5, e6, e9⟩ := hx
          rcases hi.blk b _ hb with e | ⟨lo', e7, cs, f1, f2, f3, f4, f5, f6, f7⟩
          · cases e
          rw [e1] at e7; cases e7
          rw [List.length_map, cellsL_len, ← e3] at f2
          have hn : n = l.length := (Nat.eq_of_mul_eq_mul_right (by omega) f2).symm
          subst hn
          refine ⟨a, cap, cs.take lo.len, rfl, e5, RIs_mapP.1 f7, fun c hc => f6 c (List.mem_of_mem_take hc), ?_⟩
          cases l with
          | nil => exact .inl rfl
          | cons p l =>
            have hz : lo.size ≠ 0 := by
              have := sizeTy_pos t
              simp only [List.length_cons, Nat.add_mul, Nat.one_mul] at e3; omega
            rcases e9 with rfl | ⟨e9, _⟩
            rotate_left
            · exact absurd e9 hz
            · exact .inr ⟨_, _, rfl, hi.inh _ _ e1 hz, rangeAt_take f4 _⟩
        · cases h
      · cases h
    · cases h
  · rename_i b sz p m
    split at h
    · rename_i t l hb
      split at h
      · rename_i e
        subst e
        split at h
        · rename_i e; subst e
          refine ⟨_, h, ?_⟩
          obtain ⟨lo, e1, e2, a, cap, rfl, e3, e4, e5, e6⟩ := hx
          rcases hi.blk b _ hb with e | ⟨lo', e7, cs, f1, f2, f3, f4, f5, f6, f7⟩
          · cases e
          rw [e1] at e7; cases e7
          rw [List.length_map, cellsL_len] at f2
          have hle : p + m ≤ l.length := Nat.le_of_mul_le_mul_right (by rw [f2]; exact e4) (by omega)
          have hlen : ((l.drop p).take m).length = m := by simp; omega
          have hrel : RPs S (cellsL t ((l.drop p).take m)) (((cs.take lo.len).drop (p * sizeTy t)).take (m * sizeTy t)) := by
            rw [cellsL_take, cellsL_drop]
            exact ((RIs_mapP.1 f7).drop _).take _
          refine ⟨a, cap, _, by rw [hlen], by rw [hlen]; exact e3, hrel, fun c hc => f6 c (List.mem_of_mem_take (List.mem_of_mem_drop (List.mem_of_mem_take hc))), ?_⟩
          rcases e6 with rfl | rfl
          · exact .inl (by simp)
          · by_cases hm : m = 0
            · subst hm; exact .inl (by simp)
            · have hz : lo.size ≠ 0 := by
                have h1 : 0 < (p + m) * sizeTy t := Nat.mul_pos (by omega) (by omega)
                omega
              refine .inr ⟨_, _, rfl, hi.inh _ _ e1 hz, ?_⟩
              have := rangeAt_take (rangeAt_drop (rangeAt_take f4 lo.len) (p * sizeTy t)) (m * sizeTy t)
              rwa [Nat.zero_add] at this
        · cases h
      · cases h
    · cases h
  · cases h
theorem encB_rel (l : List UInt8) : RPs S (cellsL .u8 l) (l.map fun b => .int .u8 (b.toNat : Int)) := by
  induction l with
  | nil => simp [cellsL, RPs]
  | cons x l ih => exact RPs_cons.2 ⟨rfl, ih⟩
/-- What an append takes. -/
theorem srcA_sound (hi : Inv S L H w) {x : IV} {v : Value} (hx : RI S L x v) {q : Ty} {Kl : List (T q) → Option ρ} (h : srcA H q x Kl = some out) {tx : TypeId}
    (hstr : (∃ s, x = .p (.v (.string s))) → P.underlying tx = some .string) (hsl : ¬ (∃ s, x = .p (.v (.string s))) → ∃ e', P.underlying tx = some (.slice e')) :
    ∃ l, Kl l = some out ∧ ∃ news, RPs S (cellsL q l) news ∧ Src P (sizeTy q) tx v l.length news w := by
  unfold srcA at h
  split at h
  · rename_i s
    split at h
    · simp only [RI, RP] at hx
      subst hx
      refine ⟨s.data.toList, h, byteCells s, encB_rel _, ?_⟩
      have := Src.ofString (P := P) w (hstr ⟨s, rfl⟩) s
      simpa [sizeTy] using this
    · cases h
  · rename_i hns
    obtain ⟨l, h1, a, cap, cs, rfl, h2, h3, h4, h5⟩ := srcT_sound hi hx h
    refine ⟨l, h1, cs, h3, ?_⟩
    obtain ⟨e', he'⟩ := hsl (by rintro ⟨s, rfl⟩; exact hns s rfl)
    have hl : cs.length = l.length * sizeTy q := by rw [h3.length, cellsL_len]
    rcases h5 with rfl | ⟨b, o, rfl, _, h5⟩
    · have : cs = [] := by simpa [cellsL, RPs] using h3
      subst this
      cases a with
      | none => refine ⟨.inl ⟨e', he'⟩, fun _ => rfl, ?_, ?_, hl, h4⟩ <;> simp [Builtin.firstCells]
      | some a => exact Src.ofSlice w he' a 0 cap [] hl (fun j u hj => by simp at hj) h4
    · exact Src.ofSlice w he' _ _ cap cs hl (fun j u hj => by rw [Addr.add_mid]; exact h5 j u hj) h4
end
end Go.Proofs.YtfaofikhabccoaaGreatDoor.Jv
