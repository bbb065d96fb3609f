/- The ideal machine's plain operations do what the model's do; conditions: none. -/
import Derived.Test.YtfaofikhabccoaaGreatDoorJvMem
import Derived.Laws.Tables
import Derived.Laws.Slices
import Derived.Laws.Strings
import Derived.Laws.BytesString
import Derived.WideLaws
namespace Go.Proofs.YtfaofikhabccoaaGreatDoor.Jv
open Go Go.RowKit
set_option linter.unusedVariables false
set_option linter.unusedSimpArgs false

/-- An operation of the model ends as the ideal one, and the machine goes on. -/
def OpOK {ρ : Type} (S : Mem) (L : Locs) (H : Hp) (w : World) (t : List IV) (vs : List Value) (run : Result Next) (K : IV → Option Nat → Hp → Option ρ) (out : ρ) : Prop :=
  ∃ r kl H', K r kl H' = some out ∧ ∃ v w' L', (run = .ok (.value v) w' ∨ (run = .ok .skip w' ∧ v = Go.undef)) ∧ Ext H.length S L w S L' (killHp kl H') w' ∧ RI S L' r v ∧ RIs S L' (killT kl t) vs

section
variable {ρ : Type} {P : Program} {S : Mem} {L : Locs} {H : Hp} {w : World} {t : List IV} {vs : List Value} {run : Result Next} {K : IV → Option Nat → Hp → Option ρ} {out : ρ}
theorem OpOK.val (hi : Inv S L H w) (ht : RIs S L t vs) {r : IV} {v : Value} (hk : K r none H = some out) (hr : RI S L r v) (hrun : run = .ok (.value v) w) : OpOK S L H w t vs run K out :=
  ⟨r, none, H, hk, v, w, L, .inl hrun, Ext.refl hi (Nat.le_refl _), hr, ht⟩
theorem chk_some {b : Bool} {x : Option ρ} (h : chk b x = some out) : b = true ∧ x = some out := by
  cases b
  · cases h
  · exact ⟨rfl, h⟩
theorem chkR_some {b : Bool} {x : Option ρ} (h : chkR b x = some out) : b = true ∧ x = some out := by
  cases b
  · cases h
  · exact ⟨rfl, h⟩
theorem getK_some {α : Type} {l : List α} {j : Nat} {K : α → Option ρ} (h : getK l j K = some out) : ∃ x, l[j]? = some x ∧ K x = some out := by
  unfold getK at h
  split at h
  · exact ⟨_, by assumption, h⟩
  · cases h
theorem obind_some {α : Type} {o : Option α} {K : α → Option ρ} (h : obind o K = some out) : ∃ x, o = some x ∧ K x = some out := by
  unfold obind at h
  exact Option.bind_eq_some_iff.1 h

/-! ### Operands -/
theorem ev_rel {a : Act} (ht : RIs S L t a.tmps.toList) (x : Operand) : RI S L (evI t x) (a.eval x) := by
  cases x with
  | tmp i =>
    simp only [evI, Act.eval]
    cases h : t[i]? with
    | none => rw [List.getD_eq_getElem?_getD, h]; trivial
    | some y =>
      obtain ⟨v, h1, h2⟩ := ht.get h
      rw [List.getD_eq_getElem?_getD, h]
      have : a.tmps.getD i Go.undef = v := by
        rw [Array.getD_eq_getD_getElem?, ← Array.getElem?_toList, h1]; rfl
      rw [this]; exact h2
  | const v => rfl
  | global g => rfl
  | func f => rfl
theorem evL_rel {a : Act} (ht : RIs S L t a.tmps.toList) (l : List Operand) : RIs S L (evL t l) (l.map a.eval) := by
  induction l with
  | nil => simp [evL, RIs]
  | cons x l ih => exact RIs_cons.2 ⟨ev_rel ht x, ih⟩

/-! ### What is known of a value by its ideal form -/
theorem RI_v {x v : Value} (h : RI S L (.p (.v x)) v) : v = x := h
theorem oneI_rel {x : IV} {v : Value} (h1 : oneI x = true) (h : RI S L x v) : v.oneCell' = true := by
  cases x with
  | p y => cases y with
    | v z => simp only [RI, RP] at h; subst h; cases v <;> simp_all [oneI, oneV, Value.oneCell']
    | agg l => cases h1
    | tup l => cases h1
    | sl t l => obtain ⟨a, cap, rfl, _⟩ := h; rfl
    | rop l => obtain ⟨b, o, rfl, _⟩ := h; rfl
    | err b => obtain ⟨_, rfl⟩ | ⟨_, t, u, rfl⟩ := h <;> rfl
    | opt t x => obtain ⟨_, rfl⟩ | ⟨y, b, o, _, rfl, _⟩ := h <;> rfl
  | agg l => cases h1
  | tup l => cases h1
  | row b sz => obtain ⟨lo, _, _, a, n, cap, rfl, _⟩ := h; rfl
  | rw b sz o n => obtain ⟨lo, _, _, a, cap, rfl, _⟩ := h; rfl
  | ptr b o => obtain ⟨lo, _, _, rfl⟩ := h; rfl
  | eptr b sz j o => obtain ⟨lo, _, _, rfl⟩ := h; rfl
  | fn f c => obtain ⟨_, cs, rfl, _⟩ := h; rfl
  | it b => obtain ⟨lo, _, _, rfl⟩ := h; rfl
  | undef => cases h1
theorem oneL_rel {l : List IV} {cs : List Value} (h1 : oneL l = true) (h : RIs S L l cs) : ∀ v ∈ cs, v.oneCell' = true := by
  induction l generalizing cs with
  | nil => rw [RIs_nil] at h; subst h; intro v hv; cases hv
  | cons x l ih =>
    obtain ⟨v, r, rfl, h2, h3⟩ := h
    simp only [oneL, Bool.and_eq_true] at h1
    intro u hu
    rcases List.mem_cons.1 hu with rfl | hu
    · exact oneI_rel h1.1 h2
    · exact ih h1.2 h3 u hu
theorem oneI_ne {x : IV} (h : oneL (cellsI x) = true) : x ≠ .undef := by
  rintro rfl
  simp [cellsI, oneL, oneI] at h

/-! ### Types -/
theorem sizeT_some {ty : TypeId} {n : Nat} (h : sizeT P ty = some n) : ∃ i, P.info? ty = some i ∧ i.size = n := by
  unfold sizeT at h
  cases hi : P.info? ty with
  | none => simp [hi] at h
  | some i => exact ⟨i, rfl, by simpa [hi] using h⟩
theorem zeroT_some {ty : TypeId} {z : Value} (h : zeroT P ty = some z) : ∃ i, P.info? ty = some i ∧ i.zero = some z := by
  unfold zeroT at h
  split at h
  · exact ⟨_, by assumption, h⟩
  · cases h
theorem isSliceT_some {ty : TypeId} (h : isSliceT P ty = true) : ∃ e, P.underlying ty = some (.slice e) := by
  unfold isSliceT at h
  split at h
  · exact ⟨_, by assumption⟩
  · cases h
theorem isStrT_some {ty : TypeId} (h : isStrT P ty = true) : P.underlying ty = some .string := by
  unfold isStrT at h
  split at h
  · assumption
  · cases h
theorem elemSz_slice {ty : TypeId} {e : TypeId} {sz : Nat} (hu : P.underlying ty = some (.slice e)) (h : elemSz P ty = some sz) : ∃ i, P.info? e = some i ∧ i.size = sz ∧ sz ≠ 0 := by
  simp only [elemSz, elemT, hu] at h
  cases hs : sizeT P e with
  | none => simp [hs] at h
  | some n =>
    obtain ⟨i, h1, h2⟩ := sizeT_some hs
    cases n with
    | zero => simp [hs] at h
    | succ n => simp [hs] at h; subst h; exact ⟨i, h1, h2, by omega⟩

/-! ### Loads -/
theorem isAggI_cells {x : IV} {v : Value} (h : isAggI x = true) (hx : RI S L x v) : ∃ cs : List Value, v = .agg ⟨cs⟩ ∧ RIs S L (cellsI x) cs := by
  cases x with
  | p y =>
    cases y with
    | v z =>
      cases z <;> simp only [isAggI] at h <;> try (cases h; done)
      rename_i cs
      simp only [RI, RP] at hx
      exact ⟨cs.toList, by rw [hx], RIs_mapP.2 (RPs_mapV _)⟩
    | agg l => obtain ⟨cs, rfl, h1⟩ := hx; exact ⟨cs, rfl, RIs_mapP.2 h1⟩
    | _ => cases h
  | agg l => exact hx
  | _ => cases h
theorem RPm_range {l : List PV} {b o : Nat} (h : RPm S l b o) : ∃ cs, RPs S l cs ∧ ∀ j v, cs[j]? = some v → S b (o + j) v := by
  induction l generalizing o with
  | nil => exact ⟨[], by simp [RPs], fun j v h => by simp at h⟩
  | cons x l ih =>
    obtain ⟨⟨c, h1, h2⟩, h3⟩ := h
    obtain ⟨cs, h4, h5⟩ := ih h3
    refine ⟨c :: cs, RPs_cons.2 ⟨h2, h4⟩, fun j v hj => ?_⟩
    cases j with
    | zero => simp at hj; subst hj; exact h1
    | succ j => have := h5 j v (by simpa using hj); rwa [show o + (j + 1) = o + 1 + j from by omega]
theorem RPm_of {S' : Mem} {l : List PV} {cs : List Value} {b o : Nat} (h : RPs S' l cs) (k : ∀ j v, cs[j]? = some v → S' b (o + j) v) : RPm S' l b o := by
  induction l generalizing cs o with
  | nil => simp [RPm]
  | cons x l ih =>
    obtain ⟨v, r, rfl, h1, h2⟩ := h
    exact ⟨⟨v, k 0 v rfl, h1⟩, ih h2 fun j u hj => by have := k (j + 1) u (by simpa using hj); rwa [show o + 1 + j = o + (j + 1) from by omega]⟩
/-- What is read out of cells is what they are. -/
theorem decT_sound : ∀ (t : Ty) {xs : List PV} {K : T t → List PV → Option ρ}, decT t xs K = some out → ∃ x r, K x r = some out ∧ xs.length = sizeTy t + r.length ∧ ∀ S vs, RPs S xs vs → RPs S (cellsT t x ++ r) vs
  | t, [], K, h => by cases t <;> simp only [decT] at h <;> cases h
  | .int k, x :: r, K, h => by
    simp only [decT] at h
    split at h
    · rename_i n hn
      refine ⟨n, r, h, by simp [sizeTy]; omega, ?_⟩
      rintro S vs ⟨v, q, rfl, h1, h2⟩
      refine RPs_cons.2 ⟨?_, h2⟩
      cases x <;> simp only [asI] at hn <;> try (cases hn; done)
      rename_i y
      cases y <;> simp only at hn <;> try (cases hn; done)
      split at hn
      · rename_i hk; subst hk; cases hn; exact h1
      · cases hn
    · cases h
  | .u8, x :: r, K, h => by
    simp only [decT] at h
    split at h
    · rename_i n hn
      obtain ⟨hb, h⟩ := chkR_some h
      refine ⟨_, r, h, by simp [sizeTy]; omega, ?_⟩
      rintro S vs ⟨v, q, rfl, h1, h2⟩
      refine RPs_cons.2 ⟨?_, h2⟩
      simp only [inU8, Bool.and_eq_true, decide_eq_true_eq] at hb
      cases x <;> simp only [asI] at hn <;> try (cases hn; done)
      rename_i y
      cases y <;> simp only at hn <;> try (cases hn; done)
      split at hn
      · rename_i hk
        subst hk; cases hn
        have : ((UInt8.ofNat n.toNat).toNat : Int) = n := by
          rw [UInt8.toNat_ofNat']
          omega
        rw [this]
        exact h1
      · cases hn
    · cases h
  | .bool, x :: r, K, h => by
    simp only [decT] at h
    split at h
    · rename_i n hn
      refine ⟨n, r, h, by simp [sizeTy]; omega, ?_⟩
      rintro S vs ⟨v, q, rfl, h1, h2⟩
      refine RPs_cons.2 ⟨?_, h2⟩
      cases x <;> simp only [asB] at hn <;> try (cases hn; done)
      rename_i y
      cases y <;> simp only at hn <;> cases hn
      exact h1
    · cases h
  | .str, x :: r, K, h => by
    simp only [decT] at h
    split at h
    · rename_i n hn
      refine ⟨_, r, h, by simp [sizeTy]; omega, ?_⟩
      rintro S vs ⟨v, q, rfl, h1, h2⟩
      refine RPs_cons.2 ⟨?_, h2⟩
      cases x <;> simp only [asS] at hn <;> try (cases hn; done)
      rename_i y
      cases y <;> simp only at hn <;> cases hn
      exact h1
    · cases h
  | .err, x :: r, K, h => by
    simp only [decT] at h
    split at h
    · rename_i n hn
      refine ⟨_, r, h, by simp [sizeTy]; omega, ?_⟩
      rintro S vs ⟨v, q, rfl, h1, h2⟩
      refine RPs_cons.2 ⟨?_, h2⟩
      unfold asE at hn
      split at hn
      · cases hn; exact h1
      · cases hn
        simp only [RP] at h1
        subst h1
        exact .inl ⟨rfl, rfl⟩
      · cases hn
    · cases h
  | .sl t, x :: r, K, h => by
    simp only [decT] at h
    split at h
    · rename_i n hn
      refine ⟨_, r, h, by simp [sizeTy]; omega, ?_⟩
      rintro S vs ⟨v, q, rfl, h1, h2⟩
      refine RPs_cons.2 ⟨?_, h2⟩
      unfold asSl at hn
      split at hn
      · split at hn
        · rename_i e; subst e; cases hn; exact h1
        · cases hn
      · cases hn
        simp only [RP] at h1
        subst h1
        exact RP_nil t _ _
      · cases hn
    · cases h
  | .pair a b, x :: r, K, h => by
    simp only [decT] at h
    obtain ⟨y, q, h1, h2, h3⟩ := decT_sound a h
    obtain ⟨z, q', h4, h5, h6⟩ := decT_sound b h1
    refine ⟨(y, z), q', h4, by simp only [sizeTy]; omega, fun S vs hv => ?_⟩
    obtain ⟨u1, u2, rfl, g1, g2⟩ := RPs_append (h3 S vs hv)
    simp only [cellsT, List.append_assoc]
    exact g1.append (h6 S _ g2)
  | .opt t, x :: r, K, h => by
    simp only [decT] at h
    split at h
    · split at h
      · rename_i e
        subst e
        exact ⟨_, r, h, by simp [sizeTy]; omega, fun S vs hv => hv⟩
      · cases h
    · refine ⟨none, r, h, by simp [sizeTy]; omega, ?_⟩
      rintro S vs ⟨v, q, rfl, h1, h2⟩
      exact RPs_cons.2 ⟨.inl ⟨rfl, h1⟩, h2⟩
    · rename_i l
      obtain ⟨y, q, h1, h2, h3⟩ := decT_sound t h
      split at h1
      · refine ⟨some y, r, h1, by simp [sizeTy]; omega, ?_⟩
        rintro S vs ⟨v, q', rfl, g1, g2⟩
        refine RPs_cons.2 ⟨?_, g2⟩
        obtain ⟨b, o, rfl, g3⟩ := g1
        refine .inr ⟨y, b, o, rfl, rfl, ?_⟩
        rw [RT_cells]
        obtain ⟨cs, g4, g5⟩ := RPm_range g3
        have g6 := h3 S cs g4
        rw [List.append_nil] at g6
        exact RPm_of g6 g5
      · cases h1
    · cases h
/-- A variable of the model, out of its cells. -/
def LoadsAs (P : Program) (ty : TypeId) (cs : List Value) (v : Value) : Prop :=
  (isAggT P ty = true ∧ sizeT P ty = some cs.length ∧ v = .agg ⟨cs⟩) ∨ (isAggT P ty = false ∧ (∃ d, P.underlying ty = some d) ∧ cs = [v])
theorem loadP_sound {ty : TypeId} {l : List PV} {K : IV → Option ρ} (h : loadP P ty l K = some out) :
    ∃ m y, m ≤ l.length ∧ K y = some out ∧ ∀ S L cs, RPs S (l.take m) cs → ∃ v, LoadsAs P ty cs v ∧ RI S L y v := by
  unfold loadP at h
  split at h
  · rename_i hagg
    split at h
    · rename_i n hn
      split at h
      · rename_i hc
        refine ⟨n, _, by simp at hc; omega, h, fun S L cs hcs => ⟨.agg ⟨cs⟩, .inl ⟨hagg, ?_, rfl⟩, mkAggP_rel hcs⟩⟩
        rw [hcs.length, hn, hc]
      · cases h
    · cases h
  · rename_i hagg
    split at h
    · rename_i d x r hd
      refine ⟨1, _, by simp, h, fun S L cs hcs => ?_⟩
      simp only [List.take_succ_cons, List.take_zero] at hcs
      obtain ⟨v, q, rfl, e1, e2⟩ := hcs
      rw [RPs_nil] at e2
      subst e2
      exact ⟨v, .inr ⟨by simpa using hagg, ⟨d, hd⟩, rfl⟩, e1⟩
    · cases h
theorem loadG_sound {ty : TypeId} {l : List IV} {K : IV → Option ρ} (h : loadG P ty l K = some out) :
    ∃ m y, m ≤ l.length ∧ K y = some out ∧ ∀ S L cs, RIs S L (l.take m) cs → ∃ v, LoadsAs P ty cs v ∧ RI S L y v := by
  unfold loadG at h
  split at h
  · rename_i hagg
    split at h
    · rename_i n hn
      split at h
      · rename_i hc
        refine ⟨n, _, by simp at hc; omega, h, fun S L cs hcs => ⟨.agg ⟨cs⟩, .inl ⟨hagg, ?_, rfl⟩, mkAgg_rel hcs⟩⟩
        rw [hcs.length, hn, hc]
      · cases h
    · cases h
  · rename_i hagg
    split at h
    · rename_i d x r hd
      refine ⟨1, _, by simp, h, fun S L cs hcs => ?_⟩
      simp only [List.take_succ_cons, List.take_zero] at hcs
      obtain ⟨v, q, rfl, e1, e2⟩ := hcs
      rw [RIs_nil] at e2
      subst e2
      exact ⟨v, .inr ⟨by simpa using hagg, ⟨d, hd⟩, rfl⟩, e1⟩
    · cases h
theorem isAggT_some {ty : TypeId} (h : isAggT P ty = true) : ∃ d, P.underlying ty = some d ∧ d.isRow = true := by
  unfold isAggT at h
  split at h
  · exact ⟨_, by assumption, rfl⟩
  · exact ⟨_, by assumption, rfl⟩
  · cases h
theorem LoadsAs.runs {ty : TypeId} {cs : List Value} {v : Value} (h : LoadsAs P ty cs v) {b o : Nat} (hr : w.rangeAt b o cs) :
    (loadVar ty ⟨b, o, none⟩).run P w = .ok v w := by
  rcases h with ⟨h1, h2, rfl⟩ | ⟨h1, ⟨d, hd⟩, rfl⟩
  · obtain ⟨d, hd, hrow⟩ := isAggT_some h1
    exact run_loadVar_mid w b o ty cs d hr hd hrow h2
  · have := hr 0 v rfl
    rw [Nat.add_zero] at this
    have hagg : (isAgg ty).run P w = .ok false w := by
      unfold isAggT at h1
      rw [hd] at h1
      unfold isAgg
      rw [Sem.run_bind, run_underlying hd w]
      cases d <;> simp_all
    simp [loadVar, hagg, this]
theorem RPm_drop {l : List PV} {b o : Nat} (h : RPm S l b o) (n : Nat) : RPm S (l.drop n) b (o + n) := by
  induction n generalizing l o with
  | zero => simpa using h
  | succ n ih =>
    cases l with
    | nil => simp [RPm]
    | cons x l => have := ih h.2; rwa [show o + 1 + n = o + (n + 1) from by omega] at this
theorem RPm_take {l : List PV} {b o : Nat} (h : RPm S l b o) (n : Nat) : RPm S (l.take n) b o := by
  induction n generalizing l o with
  | zero => simp [RPm]
  | succ n ih =>
    cases l with
    | nil => simp [RPm]
    | cons x l => exact ⟨h.1, ih h.2⟩
theorem rangeAt_take {b o : Nat} {cs : List Value} (h : w.rangeAt b o cs) (n : Nat) : w.rangeAt b o (cs.take n) := fun j v hj => h j v (by
  rw [List.getElem?_take] at hj
  split at hj
  · exact hj
  · cases hj)
theorem rangeAt_drop {b o : Nat} {cs : List Value} (h : w.rangeAt b o cs) (n : Nat) : w.rangeAt b (o + n) (cs.drop n) := fun j v hj => by
  rw [List.getElem?_drop] at hj
  rw [show o + n + j = o + (n + j) from by omega]
  exact h _ v hj
/-- Out of memory that never turns. -/
theorem load_rop (hi : Inv S L H w) {ty : TypeId} {l : List PV} {v : Value} (hv : RI S L (.p (.rop l)) v) {K : IV → Option ρ} (h : loadP P ty l K = some out) :
    ∃ y u, K y = some out ∧ RI S L y u ∧ (Instr.loadAt ty v).run P w = .ok u w := by
  obtain ⟨m, y, h1, h2, h3⟩ := loadP_sound h
  obtain ⟨b, o, rfl, h4⟩ := hv
  obtain ⟨cs, h5, h6⟩ := RPm_range (RPm_take h4 m)
  obtain ⟨u, h7, h8⟩ := h3 S L cs h5
  exact ⟨y, u, h2, h8, by simpa [Instr.loadAt, Instr.sureAddr] using h7.runs fun j v hj => (hi.sta _ _ _ (h6 j v hj)).1⟩
/-- Out of a block of one's own. -/
theorem load_blk (hi : Inv S L H w) {ty : TypeId} {b off : Nat} {lo : Lo} (hl : L b = some lo) {K : IV → Option ρ} (h : loadB P H ty b off K = some out) :
    ∃ y u, K y = some out ∧ RI S L y u ∧ (Instr.loadAt ty (.pointer (some ⟨lo.blk, off, none⟩))).run P w = .ok u w := by
  unfold loadB at h
  split at h
  · rename_i l hb
    obtain ⟨m, y, h1, h2, h3⟩ := loadP_sound h
    rcases hi.blk b _ hb with e | ⟨lo', e1, cs, e2, e3, e4, e5, e6, e7, e8⟩
    · cases e
    rw [hl] at e1; cases e1
    have h4 : RPs S ((l.drop off).take m) (((cs.take lo.len).drop off).take m) := (RIs_mapP.1 e8 |>.drop off).take m
    obtain ⟨u, h7, h8⟩ := h3 S L _ h4
    refine ⟨y, u, h2, h8, ?_⟩
    have := rangeAt_take (rangeAt_drop (rangeAt_take e5 lo.len) off) m
    rw [Nat.zero_add] at this
    simpa [Instr.loadAt, Instr.sureAddr] using h7.runs this
  · rename_i l hb
    obtain ⟨m, y, h1, h2, h3⟩ := loadG_sound h
    rcases hi.blk b _ hb with e | ⟨lo', e1, cs, e2, e3, e4, e5, e6, e7, e8⟩
    · cases e
    rw [hl] at e1; cases e1
    have h4 : RIs S L ((l.drop off).take m) (((cs.take lo.len).drop off).take m) := (e8.drop off).take m
    obtain ⟨u, h7, h8⟩ := h3 S L _ h4
    refine ⟨y, u, h2, h8, ?_⟩
    have := rangeAt_take (rangeAt_drop (rangeAt_take e5 lo.len) off) m
    rw [Nat.zero_add] at this
    simpa [Instr.loadAt, Instr.sureAddr] using h7.runs this
  · cases h
/-- Out of an element of a row of one's own. -/
theorem load_el (hi : Inv S L H w) {ty : TypeId} {b sz j off : Nat} {lo : Lo} (hl : L b = some lo) {K : IV → Option ρ} (h : loadE P H ty b sz j off K = some out) :
    ∃ y u, K y = some out ∧ RI S L y u ∧ (Instr.loadAt ty (.pointer (some ⟨lo.blk, j * sz + off, none⟩))).run P w = .ok u w := by
  unfold loadE at h
  split at h
  · rename_i t l hb
    split at h
    · rename_i hsz
      subst hsz
      obtain ⟨x, hx, h⟩ := getK_some h
      obtain ⟨m, y, h1, h2, h3⟩ := loadP_sound h
      rcases hi.blk b _ hb with e | ⟨lo', e1, cs, e2, e3, e4, e5, e6, e7, e8⟩
      · cases e
      rw [hl] at e1; cases e1
      have e9 : RPs S (cellsT t x) (((cs.take lo.len).drop (j * sizeTy t)).take (sizeTy t)) := by
        have := ((RIs_mapP.1 e8).drop (j * sizeTy t)).take (sizeTy t)
        rwa [cellsL_get hx] at this
      have h4 := (e9.drop off).take m
      obtain ⟨u, h7, h8⟩ := h3 S L _ h4
      refine ⟨y, u, h2, h8, ?_⟩
      have := rangeAt_take (rangeAt_drop (rangeAt_take (rangeAt_drop (rangeAt_take e5 lo.len) (j * sizeTy t)) (sizeTy t)) off) m
      rw [Nat.zero_add] at this
      simpa [Instr.loadAt, Instr.sureAddr] using h7.runs this
    · cases h
  · cases h
end
end Go.Proofs.YtfaofikhabccoaaGreatDoor.Jv
