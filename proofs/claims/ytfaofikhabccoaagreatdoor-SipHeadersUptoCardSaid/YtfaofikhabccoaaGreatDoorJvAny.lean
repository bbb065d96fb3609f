/- A region that draws its order: every order comes to what the text's comes to; conditions: none. -/
import Derived.Test.YtfaofikhabccoaaGreatDoorJvDraw
namespace Go.Proofs.YtfaofikhabccoaaGreatDoor.Jv
open Go Go.RowKit
set_option linter.unusedVariables false
set_option linter.unusedSimpArgs false
section
variable {ρ : Type} {S : Mem} {L : Locs} {H : Hp} {w : World} {t t' : List IV} {out : ρ}
variable {n : Nat} {n0 : Nat} {S0 : Mem} {L0 : Locs} {w0 : World} {ds : List Deferred × Nat}
variable {E : Env} {m : Mach} {ops : Array Oper} {K : KN ρ} {Q : Exit → Act → World → Prop}

theorem Inv.drew (h : Inv S L H w) : Inv S L H { w with drawn := w.drawn + 1 } := by
  refine ⟨fun b k hb => ?_, h.out, h.inj, h.inh, h.sta⟩
  rcases h.blk b k hb with e | ⟨lo, h1, h2⟩
  · exact .inl e
  · refine .inr ⟨lo, h1, ?_⟩
    cases k <;> exact h2
theorem At.drew {a : Act} (h : At n0 S0 L0 w0 ds S L t H a w) : At n0 S0 L0 w0 ds S L t H a { w with drawn := w.drawn + 1 } :=
  ⟨⟨h.ext.inv.drew, ⟨h.ext.kp.os, h.ext.kp.tape, h.ext.kp.output, h.ext.kp.size, h.ext.kp.block⟩, h.ext.mem, h.ext.new, h.ext.own, h.ext.box, h.ext.len⟩, h.tmps, h.defers⟩

/-! ### What the look at a region says -/
theorem edgesOK_spec {j : Nat} {l : List Edge} (h : edgesOK j l = true) {e : Edge} (he : e ∈ l) (hb : Region.binds .any e = true) : e.on < j := by
  induction l with
  | nil => cases he
  | cons x l ih =>
    simp only [edgesOK, Bool.and_eq_true, Bool.or_eq_true, Bool.not_eq_true', decide_eq_true_eq] at h
    rcases List.mem_cons.1 he with rfl | he
    · exact h.1.resolve_left (by simp [hb])
    · exact ih h.2 he
theorem regJ_spec {l0 : List Oper} {m j : Nat} {oj : Oper} : ∀ (l : List Oper) (i0 : Nat), regJ E l0 m j oj i0 l = true → ∀ p oi, l[p]? = some oi → i0 + p < j →
    precB l0 (i0 + p) m j = true ∨ (pairOK E oi oj = true ∧ oi.apart l0.toArray oj = true)
  | [], _, _, p, oi, hp, _ => by simp at hp
  | x :: l, i0, h, p, oi, hp, hlt => by
    simp only [regJ, Bool.and_eq_true] at h
    cases p with
    | zero =>
      simp only [List.getElem?_cons_zero, Option.some.injEq] at hp
      subst hp
      have h1 := h.1
      rw [if_pos (by simpa using hlt)] at h1
      simp only [Bool.or_eq_true, Bool.and_eq_true] at h1
      rcases h1 with h1 | h1
      · exact .inl h1
      · exact .inr h1
    | succ p =>
      have := regJ_spec l (i0 + 1) h.2 p oi (by simpa using hp) (by omega)
      rwa [show i0 + 1 + p = i0 + (p + 1) from by omega] at this
theorem regA_spec {l0 : List Oper} {m : Nat} : ∀ (l : List Oper) (j0 : Nat), regA E l0 m j0 l = true → ∀ p oj, l[p]? = some oj → edgesOK (j0 + p) oj.after.toList = true ∧ regJ E l0 m (j0 + p) oj 0 l0 = true
  | [], _, _, p, oi, hp => by simp at hp
  | x :: l, j0, h, p, oj, hp => by
    simp only [regA, Bool.and_eq_true] at h
    cases p with
    | zero =>
      simp only [List.getElem?_cons_zero, Option.some.injEq] at hp
      subst hp
      exact h.1
    | succ p =>
      have := regA_spec l (j0 + 1) h.2 p oj (by simpa using hp)
      rwa [show j0 + 1 + p = j0 + (p + 1) from by omega] at this
theorem regOK_edges (h : regOK E ops = true) {j : Nat} {o : Oper} (hj : ops[j]? = some o) {e : Edge} (he : e ∈ o.after) (hb : Region.binds .any e = true) : e.on < j := by
  have := (regA_spec _ 0 h j o (by rw [Array.getElem?_toList]; exact hj)).1
  rw [Nat.zero_add] at this
  exact edgesOK_spec this (by simpa using he) hb
theorem regOK_pair (h : regOK E ops = true) {i j : Nat} {oi oj : Oper} (hi : ops[i]? = some oi) (hj : ops[j]? = some oj) (hlt : i < j) :
    precB ops.toList i ops.toList.length j = true ∨ (pairOK E oi oj = true ∧ oi.apart ops oj = true) := by
  have := (regA_spec _ 0 h j oj (by rw [Array.getElem?_toList]; exact hj)).2
  rw [Nat.zero_add] at this
  have := regJ_spec _ 0 this i oi (by rw [Array.getElem?_toList]; exact hi) (by omega)
  rwa [Nat.zero_add, Array.toArray_toList] at this

/-! ### Closed sets -/
def Clo (ops : Array Oper) (X : Nat → Bool) : Prop := ∀ j o, X j = true → ops[j]? = some o → ∀ e ∈ o.after, Region.binds .any e = true → X e.on = true
theorem precE_spec {r : Nat → Bool} {i : Nat} {l : List Edge} (h : precE r i l = true) : ∃ e ∈ l, Region.binds .any e = true ∧ (e.on = i ∨ r e.on = true) := by
  induction l with
  | nil => cases h
  | cons x l ih =>
    simp only [precE, Bool.or_eq_true, Bool.and_eq_true, beq_iff_eq] at h
    rcases h with ⟨h1, h2⟩ | h
    · exact ⟨x, by simp, h1, h2⟩
    · obtain ⟨e, h1, h2⟩ := ih h
      exact ⟨e, by simp [h1], h2⟩
theorem prec_ready {X : Nat → Bool} (hc : Clo ops X) {i : Nat} : ∀ (m j : Nat) (o : Oper), ops[j]? = some o → (∀ e ∈ o.after, Region.binds .any e = true → X e.on = true) → precB ops.toList i m j = true → X i = true
  | 0, _, _, _, _, h => by cases h
  | m + 1, j, o, ho, hr, h => by
    simp only [precB, Array.getElem?_toList, ho] at h
    obtain ⟨e, h1, h2, h3⟩ := precE_spec h
    have hX := hr e (by simpa using h1) h2
    rcases h3 with rfl | h3
    · exact hX
    · cases ho' : ops[e.on]? with
      | none =>
        cases m with
        | zero => cases h3
        | succ m => simp only [precB, Array.getElem?_toList, ho'] at h3; cases h3
      | some o' => exact prec_ready hc m e.on o' ho' (fun e' he' hb' => hc _ _ hX ho' e' he' hb') h3
theorem Clo.prec {X : Nat → Bool} (hc : Clo ops X) {i j m : Nat} {o : Oper} (ho : ops[j]? = some o) (hj : X j = true) (h : precB ops.toList i m j = true) : X i = true :=
  prec_ready hc m j o ho (fun e he hb => hc _ _ hj ho e he hb) h
theorem Clo.add {X : Nat → Bool} (hc : Clo ops X) {i : Nat} {o : Oper} (ho : ops[i]? = some o) (hr : ∀ e ∈ o.after, Region.binds .any e = true → X e.on = true) : Clo ops fun q => if q = i then true else X q := by
  intro j oj hj hoj e he hb
  simp only
  split
  · rfl
  · by_cases hji : j = i
    · subst hji
      rw [ho] at hoj
      cases hoj
      exact hr e he hb
    · simp only [hji, if_false] at hj
      exact hc j oj hj hoj e he hb

/-! ### A stretch of quiet operations and of new blocks -/
theorem alloc_not {o : Oper} (h : isAlloc o = true) : isQuiet E o = false ∧ isFree o = false := by
  obtain ⟨dst, op, type, pos, after, guard⟩ := o
  cases op <;> simp only [isAlloc] at h <;> first | (cases h; done) | exact ⟨rfl, rfl⟩
theorem alloc_notM {o : Oper} (h : isAlloc o = true) : isMono E o = false := by
  obtain ⟨dst, op, type, pos, after, guard⟩ := o
  cases op <;> simp only [isAlloc] at h <;> first | (cases h; done) | rfl
theorem pair_alloc {oi oj : Oper} (h : pairOK E oi oj = true) (hj : isAlloc oj = true) : isMono E oi = true := by
  obtain ⟨h1, h2⟩ := alloc_not (E := E) hj
  simpa [pairOK, h1, h2, hj] using h
theorem pair_alloc' {oi oj : Oper} (h : pairOK E oi oj = true) (hi : isAlloc oi = true) : isFree oj = true := by
  obtain ⟨h1, h2⟩ := alloc_not (E := E) hi
  have h3 := alloc_notM (E := E) hi
  simpa [pairOK, h1, h2, h3, hi] using h
theorem pair_loud {oi oj : Oper} (h : pairOK E oi oj = true) : (isQuiet E oi = true ∨ isAlloc oi = true) ∧ (isQuiet E oj = true ∨ isAlloc oj = true) := by
  have free : ∀ o, isFree o = true → isQuiet E o = true := fun o h => by
    unfold isFree at h
    unfold isQuiet
    split at h <;> simp_all
  simp only [pairOK, Bool.or_eq_true, Bool.and_eq_true] at h
  rcases h with (h | h) | h
  · exact ⟨.inl h.1, .inl h.2⟩
  · exact ⟨.inl (mono_quiet h.1), .inr h.2⟩
  · exact ⟨.inr h.1, .inl (free _ h.2)⟩
def Seg (E : Env) (m : Mach) (ops : Array Oper) (k : Nat) (t : List IV) (H : Hp) (rs : List (Option Tmp × IV)) (es : List (List Blk)) : Prop :=
  es.length = rs.length ∧ ∀ p d r e, rs[p]? = some (d, r) → es[p]? = some e → ∃ o, ops[k + p]? = some o ∧ o.dst = d ∧ ((isQuiet E o = true ∧ e = []) ∨ isAlloc o = true) ∧
    ((wantedT ops.toList (foldA (rs.take p) t) o = some true ∧ qres E m (foldA (rs.take p) t) (heapA (es.take p) H) o = some (r, heapA (es.take p) H ++ e)) ∨
     (wantedT ops.toList (foldA (rs.take p) t) o = some false ∧ r = .p (.v Go.undef) ∧ e = []))
theorem seg_split : ∀ (l : List Oper) (k : Nat) (t : List IV) (H : Hp), ops.toList.drop k = l → opsK E m ops.toList l t H K = some out →
    ∃ rs es, Seg E m ops k t H rs es ∧ opsK E m ops.toList (ops.toList.drop (k + rs.length)) (foldA rs t) (heapA es H) K = some out ∧ ∀ o, ops[k + rs.length]? = some o → isQuiet E o = false ∧ isAlloc o = false
  | [], k, t, H, hd, h => by
    refine ⟨[], [], ⟨rfl, fun p d r e hp => by simp at hp⟩, by simpa [foldA, heapA, hd] using h, fun o ho => ?_⟩
    have : ops.toList.length ≤ k := List.drop_eq_nil_iff.1 hd
    rw [Array.getElem?_eq_none (by simpa using this)] at ho
    cases ho
  | o :: l, k, t, H, hd, h => by
    have hget : ops[k]? = some o := by
      rw [← Array.getElem?_toList, ← Nat.add_zero k, ← List.getElem?_drop, hd]; rfl
    have hd' : ops.toList.drop (k + 1) = l := by
      rw [← List.drop_drop, hd]; rfl
    by_cases hq : isQuiet E o = true ∨ isAlloc o = true
    · have key : ∃ r e, opsK E m ops.toList l (putI t o.dst r) (H ++ e) K = some out ∧ ((isQuiet E o = true ∧ e = []) ∨ isAlloc o = true) ∧
          ((wantedT ops.toList t o = some true ∧ qres E m t H o = some (r, H ++ e)) ∨ (wantedT ops.toList t o = some false ∧ r = .p (.v Go.undef) ∧ e = [])) := by
        rcases opsK_cons h with ⟨h1, h2⟩ | ⟨h1, h2⟩
        · rcases hq with hq | hq
          · obtain ⟨r, h3, h4⟩ := stepK_quiet hq h2
            exact ⟨r, [], by simpa using h4, .inl ⟨hq, rfl⟩, .inl ⟨h1, by simpa using h3⟩⟩
          · obtain ⟨r, e, h3, h4⟩ := stepK_alloc hq h2
            exact ⟨r, [e], h4, .inr hq, .inl ⟨h1, h3⟩⟩
        · exact ⟨_, [], by simpa using h2, hq.imp (fun h => ⟨h, rfl⟩) id, .inr ⟨h1, rfl, rfl⟩⟩
      obtain ⟨r, e, h2, h3, h3'⟩ := key
      obtain ⟨rs, es, ⟨h4', h4⟩, h5, h6⟩ := seg_split l (k + 1) (putI t o.dst r) (H ++ e) hd' h2
      refine ⟨(o.dst, r) :: rs, e :: es, ⟨by simp [h4'], fun p d q e' hp he => ?_⟩, ?_, ?_⟩
      · cases p with
        | zero =>
          simp only [List.getElem?_cons_zero, Option.some.injEq, Prod.mk.injEq] at hp he
          obtain ⟨rfl, rfl⟩ := hp
          subst he
          exact ⟨o, by simpa using hget, rfl, h3, by simpa [foldA, heapA] using h3'⟩
        | succ p =>
          obtain ⟨o', g1, g2, g3, g4⟩ := h4 p d q e' (by simpa using hp) (by simpa using he)
          refine ⟨o', by rwa [show k + (p + 1) = k + 1 + p from by omega], g2, g3, ?_⟩
          simpa only [List.take_succ_cons, foldA, heapA] using g4
      · rw [show k + ((o.dst, r) :: rs).length = k + 1 + rs.length from by simp only [List.length_cons]; omega]
        exact h5
      · rw [show k + ((o.dst, r) :: rs).length = k + 1 + rs.length from by simp only [List.length_cons]; omega]
        exact h6
    · refine ⟨[], [], ⟨rfl, fun p d r e hp => by simp at hp⟩, by simpa [foldA, heapA, hd] using h, fun o' ho' => ?_⟩
      rw [List.length_nil, Nat.add_zero, hget] at ho'
      cases ho'
      constructor
      · cases hb : isQuiet E o with
        | false => rfl
        | true => exact absurd (.inl hb) hq
      · cases hb : isAlloc o with
        | false => rfl
        | true => exact absurd (.inr hb) hq
theorem wantedT_congr {o : Oper} (h : ∀ x ∈ o.looksAt ops, t.getD x .undef = t'.getD x .undef) : wantedT ops.toList t o = wantedT ops.toList t' o := by
  unfold wantedT
  split
  · rfl
  · rename_i g b hg
    split
    · rename_i d hd
      have : d ∈ o.looksAt ops := by
        unfold dstOf at hd
        rw [Array.getElem?_toList] at hd
        cases ho : ops[g]? with
        | none => rw [ho] at hd; cases hd
        | some o' =>
          rw [ho] at hd
          unfold Oper.looksAt
          rw [hg]
          simp only at hd
          simp [ho, hd]
      rw [h d this]
    · rfl
theorem evI_congr {o : Oper} (h : ∀ x ∈ o.looksAt ops, t.getD x .undef = t'.getD x .undef) (x : Operand) (hx : x ∈ o.op.operands) : evI t x = evI t' x := by
  cases x with
  | tmp d =>
    have : d ∈ o.looksAt ops := by
      unfold Oper.looksAt
      rw [List.mem_append]
      exact .inl (List.mem_filterMap.2 ⟨.tmp d, by simpa using hx, rfl⟩)
    exact h d this
  | _ => rfl

theorem wpAny_seg {T : Tab} (hg : Good T S0 L0 w0) (hcp : CallsOK E T m) (hreg : regOK E ops = true)
    (hQ : ∀ S' L' t' H' a' w', At n0 S0 L0 w0 ds S' L' t' H' a' w' → K t' H' = some out → Q .normal a' w') :
    ∀ (fuel k : Nat) (t : List IV) (H : Hp) (rs : List (Option Tmp × IV)) (es : List (List Blk)) (S : Mem) (L : Locs) (a : Act) (w : World) (listed : Array Bool) (X : Nat → Bool) (U : List Nat),
      listed.size = ops.size → (∀ j, j < ops.size → listed[j]? = some (X j)) → Clo ops X → (∀ j, j < k → X j = true) → (∀ j, k + rs.length ≤ j → X j = false) → Seg E m ops k t H rs es →
      opsK E m ops.toList (ops.toList.drop (k + rs.length)) (foldA rs t) (heapA es H) K = some out → (∀ o, ops[k + rs.length]? = some o → isQuiet E o = false ∧ isAlloc o = false) →
      (∀ j, j < ops.size → X j = false → j ∈ U) → U.length ≤ fuel → At n0 S0 L0 w0 ds S L (foldX X k rs t) (heapX X k es H) a w → wpAny E.P .any ops Q fuel listed a w := by
  intro fuel
  induction fuel with
  | zero =>
    intro k t H rs es S L a w listed X U hsz hX hclo hlow hhigh hseg hk hloud hU hfuel hat
    have hU0 : U = [] := List.eq_nil_of_length_eq_zero (by omega)
    subst hU0
    have hall : ∀ j, j < ops.size → X j = true := fun j hj => by
      cases h : X j with
      | true => rfl
      | false => cases hU j hj h
    refine ⟨?_, ?_⟩
    · apply List.eq_nil_iff_forall_not_mem.2
      intro i hi
      obtain ⟨h0, o, ho, _⟩ := mem_ready.1 hi
      have hlt : i < ops.size := (Array.getElem?_eq_some_iff.1 ho).1
      have := hX i hlt
      rw [hall i hlt] at this
      simp [Array.getD_eq_getD_getElem?, this] at h0
    · have hge : ops.size ≤ k + rs.length := by
        rcases Nat.lt_or_ge (k + rs.length) ops.size with h | h
        · have := hall _ h; rw [hhigh _ (Nat.le_refl _)] at this; cases this
        · exact h
      rw [List.drop_eq_nil_of_le (by simpa using hge)] at hk
      refine hQ _ _ _ _ _ _ hat ?_
      rw [foldX_all rs k t fun j hj => ?_, heapX_all es k H fun j hj => ?_]
      · exact hk
      · rw [hseg.1] at hj
        obtain ⟨o, ho, _⟩ := hseg.2 j (rs[j]).1 (rs[j]).2 (es[j]'(by rw [hseg.1]; exact hj)) (by simp [hj]) (by simp [hseg.1, hj])
        exact hall _ (Array.getElem?_eq_some_iff.1 ho).1
      · obtain ⟨o, ho, _⟩ := hseg.2 j (rs[j]).1 (rs[j]).2 (es[j]'(by rw [hseg.1]; exact hj)) (by simp [hj]) (by simp [hseg.1, hj])
        exact hall _ (Array.getElem?_eq_some_iff.1 ho).1
  | succ fuel ih =>
    intro k t H rs es S L a w listed X U hsz hX hclo hlow hhigh hseg hk hloud hU hfuel hat
    have segLt : ∀ j, j < rs.length → k + j < ops.size := fun j hj => by
      obtain ⟨o, ho, _⟩ := hseg.2 j (rs[j]).1 (rs[j]).2 (es[j]'(by rw [hseg.1]; exact hj)) (by simp [hj]) (by simp [hseg.1, hj])
      exact (Array.getElem?_eq_some_iff.1 ho).1
    refine ⟨fun hr => ?_, fun i hi => ?_⟩
    · have hall : ∀ j, j < ops.size → X j = true := by
        intro j
        induction j using Nat.strongRecOn with
        | _ j ihj =>
          intro hj
          cases hXj : X j with
          | true => rfl
          | false =>
            have : j ∈ Region.ready .any ops listed := by
              refine mem_ready.2 ⟨by simp [Array.getD_eq_getD_getElem?, hX j hj, hXj], ops[j], by simp [hj], fun e he hb => ?_⟩
              have h1 := regOK_edges hreg (j := j) (o := ops[j]) (by simp [hj]) he hb
              have h2 : e.on < ops.size := by omega
              simp [Array.getD_eq_getD_getElem?, hX _ h2, ihj _ h1 h2]
            rw [hr] at this
            cases this
      have hge : ops.size ≤ k + rs.length := by
        rcases Nat.lt_or_ge (k + rs.length) ops.size with h | h
        · have := hall _ h; rw [hhigh _ (Nat.le_refl _)] at this; cases this
        · exact h
      rw [List.drop_eq_nil_of_le (by simpa using hge)] at hk
      refine hQ _ _ _ _ _ _ hat ?_
      rw [foldX_all rs k t fun j hj => hall _ (segLt j hj), heapX_all es k H fun j hj => hall _ (segLt j (by rwa [hseg.1] at hj))]
      exact hk
    · obtain ⟨h0, oi, hoi, hedge⟩ := mem_ready.1 hi
      have hilt : i < ops.size := (Array.getElem?_eq_some_iff.1 hoi).1
      have hXi : X i = false := by
        rw [Array.getD_eq_getD_getElem?, hX i hilt] at h0
        simpa using h0
      have hedge' : ∀ e ∈ oi.after, Region.binds .any e = true → X e.on = true := fun e he hb => by
        have h1 := regOK_edges hreg hoi he hb
        have h2 : e.on < ops.size := by omega
        have := hedge e he hb
        rw [Array.getD_eq_getD_getElem?, hX _ h2] at this
        simpa using this
      have hpre : ∀ j, precB ops.toList j ops.toList.length i = true → X j = true := fun j hj => prec_ready hclo _ i oi hoi hedge' hj
      have hge : k ≤ i := by
        rcases Nat.lt_or_ge i k with h | h
        · rw [hlow i h] at hXi; cases hXi
        · exact h
      -- one more is listed
      have hX' : ∀ j, j < ops.size → (listed.setIfInBounds i true)[j]? = some ((fun q => if q = i then true else X q) j) := fun j hj => by
        by_cases hji : j = i
        · subst hji
          rw [Array.getElem?_setIfInBounds_self_of_lt (by omega)]
          simp
        · rw [Array.getElem?_setIfInBounds_ne (Ne.symm hji), hX j hj]
          simp [hji]
      have hU' : ∀ j, j < ops.size → (fun q => if q = i then true else X q) j = false → j ∈ U.erase i := fun j hj h => by
        by_cases hji : j = i
        · simp [hji] at h
        · simp only [hji, if_false] at h
          exact (List.mem_erase_of_ne hji).2 (hU j hj h)
      have hUl : (U.erase i).length ≤ fuel := by
        rw [List.length_erase_of_mem (hU i hilt hXi)]
        omega
      have hclo' := hclo.add hoi hedge'
      rcases Nat.lt_or_ge i (k + rs.length) with hlt | hge2
      · -- a quiet one
        obtain ⟨p, rfl⟩ : ∃ p, i = k + p := ⟨i - k, by omega⟩
        have hp : p < rs.length := by omega
        have hpe : p < es.length := by rw [hseg.1]; exact hp
        obtain ⟨o, ho, hd, hq, hres⟩ := hseg.2 p (rs[p]).1 (rs[p]).2 es[p] (by simp [hp]) (by simp [hpe])
        rw [hoi] at ho
        cases ho
        have seg' : ∀ j d r, rs[j]? = some (d, r) → ∃ oj, ops[k + j]? = some oj ∧ oj.dst = d := fun j d r hj => by
          have hjl : j < rs.length := (List.getElem?_eq_some_iff.1 hj).1
          obtain ⟨oj, h1, h2, _⟩ := hseg.2 j d r (es[j]'(by rw [hseg.1]; exact hjl)) hj (by simp [hseg.1, hjl])
          exact ⟨oj, h1, h2⟩
        have segE : ∀ j e, es[j]? = some e → e ≠ [] → ∃ oj, ops[k + j]? = some oj ∧ isAlloc oj = true := fun j e hj he => by
          have hjl : j < rs.length := by rw [← hseg.1]; exact (List.getElem?_eq_some_iff.1 hj).1
          obtain ⟨oj, h1, h2, h3, _⟩ := hseg.2 j (rs[j]).1 (rs[j]).2 e (by simp [hjl]) hj
          exact ⟨oj, h1, h3.resolve_left fun h => he h.2⟩
        have hag : ∀ x ∈ oi.looksAt ops, (foldX X k rs t).getD x .undef = (foldA (rs.take p) t).getD x .undef := fun x hx => by
          refine foldX_agree X x rs k p t t rfl rfl fun j d r hj hdx => ?_
          subst hdx
          obtain ⟨oj, hoj, hdj⟩ := seg' j _ r hj
          refine ⟨fun h => ?_, fun h => ?_⟩
          · rcases regOK_pair hreg hoj hoi (by omega) with h1 | ⟨_, h1⟩
            · exact hpre _ h1
            · exact absurd hx ((Oper.apart_spec h1).1 x hdj)
          · rcases Nat.eq_or_lt_of_le h with rfl | h
            · exact hXi
            · rcases regOK_pair hreg hoi hoj (by omega) with h1 | ⟨_, h1⟩
              · cases hXj : X (k + j) with
                | false => rfl
                | true => rw [hclo.prec hoj hXj h1] at hXi; cases hXi
              · exact absurd hx ((Oper.apart_spec h1).2.2 x hdj)
        have hins : foldX (fun q => if q = k + p then true else X q) k rs t = putI (foldX X k rs t) oi.dst (rs[p]).2 := by
          refine foldX_insert rs k p t (by rw [hd]; simp [hp]) hXi fun j e s hlt hj hXj x hx he => ?_
          obtain ⟨oj, hoj, hdj⟩ := seg' j e s hj
          rcases regOK_pair hreg hoi hoj (by omega) with h1 | ⟨_, h1⟩
          · rw [hclo.prec hoj hXj h1] at hXi; cases hXi
          · exact (Oper.apart_spec h1).2.1 x hx (by rw [hdj, he])
        -- the blocks as the text's order has them here
        have hpast : isFree oi = false → ∀ j e, es[j]? = some e → e ≠ [] → j < p → X (k + j) = true := fun hfr j e hj he h => by
          obtain ⟨oj, hoj, haj⟩ := segE j e hj he
          rcases regOK_pair hreg hoj hoi (by omega) with h1 | ⟨h1, _⟩
          · exact hpre _ h1
          · rw [pair_alloc' h1 haj] at hfr; cases hfr
        have hsame : isMono E oi = false → ∀ j e, es[j]? = some e → e ≠ [] → (j < p → X (k + j) = true) ∧ (p < j → X (k + j) = false) := fun hmo j e hj he => by
          have hfr : isFree oi = false := by
            cases h : isFree oi with
            | false => rfl
            | true =>
              have : isMono E oi = true := by
                unfold isMono
                split <;> first | rfl | (rename_i he; unfold isFree at h; rw [he] at h; cases h) | exact h
              rw [this] at hmo; cases hmo
          obtain ⟨oj, hoj, haj⟩ := segE j e hj he
          refine ⟨fun h => ?_, fun h => ?_⟩
          · rcases regOK_pair hreg hoj hoi (by omega) with h1 | ⟨h1, _⟩
            · exact hpre _ h1
            · rw [pair_alloc' h1 haj] at hfr; cases hfr
          · rcases regOK_pair hreg hoi hoj (by omega) with h1 | ⟨h1, _⟩
            · cases hXj : X (k + j) with
              | false => rfl
              | true => rw [hclo.prec hoj hXj h1] at hXi; cases hXi
            · rw [pair_alloc h1 haj] at hmo; cases hmo
        have hheap : isMono E oi = false → heapX X k es H = heapA (es.take p) H := fun hfr => heapX_agree es k p H fun j e hj he =>
          ⟨(hsame hfr j e hj he).1, fun h => by
            rcases Nat.eq_or_lt_of_le h with rfl | h
            · exact hXi
            · exact (hsame hfr j e hj he).2 h⟩
        have hheap' : heapX (fun q => if q = k + p then true else X q) k es H = heapX X k es H ++ es[p] := by
          by_cases he : es[p] = []
          · rw [he, List.append_nil]
            refine heapX_congr es k H fun j e hj hne => ?_
            rw [if_neg]
            intro hjp
            have : j = p := by omega
            subst this
            rw [List.getElem?_eq_getElem hpe] at hj
            cases hj
            exact hne he
          · have hal := hq.resolve_left fun h => he h.2
            have hfr := alloc_notM (E := E) hal
            rw [hheap hfr, ← heapA_take (H := H) (List.getElem?_eq_getElem hpe)]
            refine heapX_agree es k (p + 1) H fun j e hj hne => ⟨fun h => ?_, fun h => ?_⟩
            · show (if k + j = k + p then true else X (k + j)) = true
              split
              · rfl
              · exact (hsame hfr j e hj hne).1 (by omega)
            · show (if k + j = k + p then true else X (k + j)) = false
              rw [if_neg (by omega)]
              exact (hsame hfr j e hj hne).2 (by omega)
        have next : ∀ S' L' a' w', At n0 S0 L0 w0 ds S' L' (putI (foldX X k rs t) oi.dst (rs[p]).2) (heapX X k es H ++ es[p]) a' w' → wpAny E.P .any ops Q fuel (listed.setIfInBounds (k + p) true) a' w' := fun S' L' a' w' hat' =>
          ih k t H rs es S' L' a' w' _ (fun q => if q = k + p then true else X q) (U.erase (k + p)) (by simpa using hsz) hX' hclo' (fun j hj => by
              show (if j = k + p then true else X j) = true
              split
              · rfl
              · exact hlow j hj)
            (fun j hj => by
              show (if j = k + p then true else X j) = false
              rw [if_neg (by omega)]
              exact hhigh j hj) hseg hk hloud hU' hUl (by rw [hins, hheap']; exact hat')
        unfold wpOp
        rw [hoi]
        simp only
        rcases hres with ⟨h1, h2⟩ | ⟨h1, h2, h3⟩
        · rw [← wantedT_congr hag] at h1
          rw [if_pos (wantedT_sound h1 hat.tmps)]
          have h4 : qres E m (foldX X k rs t) (heapX X k es H) oi = some ((rs[p]).2, heapX X k es H ++ es[p]) := by
            rcases hq with ⟨hq, he⟩ | hq
            · rw [he, List.append_nil] at h2 ⊢
              rw [← qres_congr hq (fun x hx => evI_congr hag x hx)] at h2
              cases hfr : isFree oi with
              | true => exact free_any hfr h2 _
              | false =>
                cases hmo : isMono E oi with
                | false => rw [hheap hmo]; exact h2
                | true =>
                  obtain ⟨Y, hY⟩ := heapX_more (X := X) es k p H (hpast hfr)
                  rw [hY]
                  exact mono_more hmo h2 Y
            · rw [← alloc_congr hq (fun x hx => evI_congr hag x hx)] at h2
              rw [hheap (alloc_notM (E := E) hq)]
              exact h2
          exact .inl (qres_step hg hcp h4 hat next)
        · rw [← wantedT_congr hag] at h1
          rw [if_neg (by rw [wantedT_sound h1 hat.tmps]; simp)]
          refine next S L _ w ?_
          rw [h2, h3, List.append_nil]
          exact hat.skip oi.dst
      · have hlen : k + rs.length < ops.size := by omega
        rcases Nat.eq_or_lt_of_le hge2 with he | hgt
        · -- a loud one
          subst he
          obtain ⟨hnq, hna⟩ := hloud oi hoi
          have hfull : ∀ j, j < rs.length → X (k + j) = true := fun j hj => by
            obtain ⟨oj, hoj, _⟩ := hseg.2 j (rs[j]).1 (rs[j]).2 (es[j]'(by rw [hseg.1]; exact hj)) (by simp [hj]) (by simp [hseg.1, hj])
            rcases regOK_pair hreg hoj hoi (by omega) with h1 | ⟨h1, _⟩
            · exact hpre _ h1
            · rcases (pair_loud h1).2 with h1 | h1
              · rw [hnq] at h1; cases h1
              · rw [hna] at h1; cases h1
          rw [foldX_all rs k t hfull, heapX_all es k H fun j hj => hfull j (by rwa [hseg.1] at hj)] at hat
          have hdrop : ops.toList.drop (k + rs.length) = oi :: ops.toList.drop (k + rs.length + 1) := by
            rw [List.drop_eq_getElem_cons (by simpa using hlen)]
            congr 1
            have := (Array.getElem?_eq_some_iff.1 hoi).2
            simpa using this
          rw [hdrop] at hk
          have next : ∀ S' L' t' H' a' w', At n0 S0 L0 w0 ds S' L' t' H' a' w' → opsK E m ops.toList (ops.toList.drop (k + rs.length + 1)) t' H' K = some out →
              wpAny E.P .any ops Q fuel (listed.setIfInBounds (k + rs.length) true) a' w' := fun S' L' t' H' a' w' hat' hk' => by
            obtain ⟨rs', es', g1, g2, g3⟩ := seg_split _ (k + rs.length + 1) t' H' rfl hk'
            refine ih (k + rs.length + 1) t' H' rs' es' S' L' a' w' _ (fun q => if q = k + rs.length then true else X q) (U.erase (k + rs.length)) (by simpa using hsz) hX' hclo' (fun j hj => ?_) (fun j hj => ?_) g1 g2 g3 hU' hUl ?_
            · show (if j = k + rs.length then true else X j) = true
              split
              · rfl
              · rcases Nat.lt_or_ge j k with h | h
                · exact hlow j h
                · have := hfull (j - k) (by omega)
                  rwa [show k + (j - k) = j from by omega] at this
            · show (if j = k + rs.length then true else X j) = false
              rw [if_neg (by omega)]
              exact hhigh j (by omega)
            · rw [foldX_none rs' _ t' fun j _ => ?_, heapX_none es' _ H' fun j _ => ?_]
              · exact hat'
              · show (if _ = k + rs.length then true else X _) = false
                rw [if_neg (by omega)]
                exact hhigh _ (by omega)
              · show (if _ = k + rs.length then true else X _) = false
                rw [if_neg (by omega)]
                exact hhigh _ (by omega)
          unfold wpOp
          rw [hoi]
          simp only
          rcases opsK_cons hk with ⟨h1, h2⟩ | ⟨h1, h2⟩
          · rw [if_pos (wantedT_sound h1 hat.tmps)]
            exact .inl (stepK_sound hcp h2 hg hat next)
          · rw [if_neg (by rw [wantedT_sound h1 hat.tmps]; simp)]
            exact next _ _ _ _ _ _ (hat.skip oi.dst) h2
        · obtain ⟨hnq, hna⟩ := hloud ops[k + rs.length] (by simp [hlen])
          rcases regOK_pair hreg (i := k + rs.length) (oi := ops[k + rs.length]) (by simp [hlen]) hoi (by omega) with h1 | ⟨h1, _⟩
          · have := hpre _ h1
            rw [hhigh _ (Nat.le_refl _)] at this
            cases this
          · rcases (pair_loud h1).1 with h1 | h1
            · rw [hnq] at h1; cases h1
            · rw [hna] at h1; cases h1

/-- A region, whatever its order. -/
theorem region_sound {T : Tab} (hg : Good T S0 L0 w0) (hm : E.P.follows .mixedOrders = true) (hcp : CallsOK E T m) {id : Nat} {draw : Bool} (hreg : draw = false ∨ regOK E ops = true)
    {a : Act} (h : opsK E m ops.toList ops.toList t H K = some out) (hat : At n0 S0 L0 w0 ds S L t H a w)
    (hQ : ∀ S' L' t' H' a' w', At n0 S0 L0 w0 ds S' L' t' H' a' w' → K t' H' = some out → Q .normal a' w') : (Code.region id ops draw).wp E.P Q a w := by
  cases draw with
  | false => exact wp_region_list (opsK_list hg hcp hQ ops.toList S L t H a w h hat)
  | true =>
    have hreg := hreg.resolve_left (by simp)
    refine wp_region_any hm ?_
    obtain ⟨rs, es, g1, g2, g3⟩ := seg_split _ 0 t H (List.drop_zero) h
    refine wpAny_seg hg hcp hreg hQ ops.size 0 t H rs es S L a _ _ (fun _ => false) (List.range ops.size) (by simp) (fun j hj => by simp [hj]) (fun j o h => by cases h) (fun j h => absurd h (Nat.not_lt_zero _)) (fun _ _ => rfl) g1 g2 g3 (fun j hj _ => by simpa using hj) (by simp) ?_
    rw [foldX_none rs 0 t fun _ _ => rfl, heapX_none es 0 H fun _ _ => rfl]
    exact hat.drew
end
end Go.Proofs.YtfaofikhabccoaaGreatDoor.Jv
