/- The ideal machine stands for the model: code, loops, functions; conditions: none. -/
import Derived.Test.YtfaofikhabccoaaGreatDoorJvPlan
import Derived.LoopN
namespace Go.Proofs.YtfaofikhabccoaaGreatDoor.Jv
open Go Go.RowKit
set_option linter.unusedVariables false
set_option linter.unusedSimpArgs false
section
variable {S : Mem} {L : Locs} {H : Hp} {w : World} {t t' : List IV} {vs : List Value}
variable {n0 : Nat} {S0 : Mem} {L0 : Locs} {w0 : World} {ds : List Deferred}
variable {E : Env} {m : Mach}

/-! ### Frames -/
theorem undefs_rel {vs : List Value} : RIs S L (undefs vs.length) vs := by
  induction vs with
  | nil => simp [undefs, RIs]
  | cons v vs ih => exact ⟨v, vs, rfl, trivial, ih⟩
theorem pad_rel {l : List IV} {vs : List Value} (h : RIs S L l (vs.take l.length)) (_ : l.length ≤ vs.length) : RIs S L (padT vs.length l) vs := by
  unfold padT
  have h2 : RIs S L (undefs (vs.length - l.length)) (vs.drop l.length) := by
    have := undefs_rel (S := S) (L := L) (vs := vs.drop l.length)
    rwa [List.length_drop] at this
  have := h.append h2
  rwa [List.take_append_drop] at this
theorem At.size {a : Act} {n : Nat} (h : At n0 S0 L0 w0 (ds, n) S L t H a w) : a.tmps.toList.length = n := by
  have := h.defers
  simp only [Prod.mk.injEq] at this
  simpa using this.2
theorem At.know {a : Act} {c : Operand} {b : Bool} {d : List Deferred × Nat} (h : At n0 S0 L0 w0 d S L t H a w) (hc : evI t c = .p (.v (.bool b))) : At n0 S0 L0 w0 d S L (knowB t c b) H a w := by
  cases c with
  | tmp i =>
    have : knowB t (.tmp i) b = t := set_self (getD_get (show t.getD i .undef = _ from hc) (by simp))
    rw [this]; exact h
  | _ => exact h
/-- A state that is told by variables, in a frame. -/
theorem At.told {ρ : Type} {out : ρ} {a : Act} {n : Nat} (hn : n0 = 0) (h : At n0 S0 L0 w0 (ds, n) S L t H a w) {s : Spec} {K : Holes s → Option ρ} (hk : decSpec s t H K = some out) :
    ∃ x, K x = some out ∧ ∃ S' L', At n0 S0 L0 w0 (ds, n) S' L' (padT n (rebT s x)) (rebH s x) a w := by
  obtain ⟨x, h1, S', L', h2, h3, h4, h5, h6⟩ := decSpec_sound h.ext.inv hk h.tmps
  have hl := h5.length
  have e1 : (rebT s x).length = s.ss.length := by unfold rebT; exact rebSs_len _ _
  rw [e1, List.length_take] at hl
  refine ⟨x, h1, S', L', h.ext.re h4 h2 h3 h6 (fun i lo h _ _ => by omega) (by omega), ?_, h.defers⟩
  have := pad_rel (l := rebT s x) (vs := a.tmps.toList) (by rw [e1]; exact h5) (by rw [e1]; omega)
  rwa [h.size] at this

/-! ### Results -/
/-- A function's results, as the model reads them. -/
structure AtR (P : Program) (f : FuncId) (n0 : Nat) (S0 : Mem) (L0 : Locs) (w0 : World) (ds : List Deferred × Nat) (S : Mem) (L : Locs) (l : List IV) (us : List Value) (H : Hp) (a : Act) (w : World) : Prop where
  ext : Ext n0 S0 L0 w0 S L H w
  vals : RIs S L l us
  defers : (a.defers, a.tmps.size) = ds
  runs : (results (fnOf P f) a.tmps).run P w = .ok (pack us) w
theorem resK_sound {ρ : Type} {out : ρ} {P : Program} {a : Act} (hi : Inv S L H w) (ht : RIs S L t a.tmps.toList) :
    ∀ (rs : List ResultVar) (K : List IV → Option ρ), resK P t H rs K = some out → ∃ l us, K l = some out ∧ RIs S L l us ∧
      ∀ f : ResultVar → Sem Value, (∀ u, f (.tmp u) = pure (a.tmps.getD u Go.undef)) → (∀ u ty, f (.cell u ty) = (do loadVar ty (← asAddr (a.tmps.getD u Go.undef)))) → (rs.mapM f).run P w = .ok us w
  | [], K, h => ⟨[], [], h, by simp [RIs], fun _ _ _ => by simp⟩
  | .tmp u :: rs, K, h => by
    obtain ⟨l, us, h1, h2, h3⟩ := resK_sound hi ht rs _ h
    refine ⟨_, _, h1, RIs_cons.2 ⟨ev_rel ht (.tmp u), h2⟩, fun f hf hc => ?_⟩
    simp [List.mapM_cons, hf, h3 f hf hc, Act.eval]
  | .cell u ty :: rs, K, h => by
    simp only [resK] at h
    split at h
    · rename_i b off hb
      have hv := ev_rel (S := S) (L := L) ht (.tmp u)
      rw [hb] at hv
      obtain ⟨lo, h1, h2, h3⟩ := hv
      obtain ⟨y, v, h4, h5, h6⟩ := load_blk hi h1 h
      obtain ⟨l, us, g1, g2, g3⟩ := resK_sound hi ht rs _ h4
      refine ⟨_, _, g1, RIs_cons.2 ⟨h5, g2⟩, fun f hf hc => ?_⟩
      simp only [Act.eval] at h3
      simp only [Instr.loadAt, Instr.sureAddr, Sem.run_bind, Sem.run_pure, Result.andThen_ok] at h6
      rw [List.mapM_cons, hc, h3]
      simp [asAddr, h6, g3 f hf hc]
    · cases h
theorem endK_sound {ρ : Type} {out : ρ} {P : Program} {f : FuncId} {a : Act} {d : List Deferred × Nat} {kr : KN ρ} (hat : At n0 S0 L0 w0 d S L t H a w) (h : endK P f kr t H = some out) :
    ∃ l us, kr l H = some out ∧ AtR P f n0 S0 L0 w0 d S L l us H a w := by
  unfold endK at h
  obtain ⟨l, us, h1, h2, h3⟩ := resK_sound hat.ext.inv hat.tmps (fnOf P f).results.toList _ h
  refine ⟨l, us, h1, hat.ext, h2, hat.defers, ?_⟩
  have hrun : (results (fnOf P f) a.tmps).run P w = .ok (if h : us.toArray.size = 1 then us.toArray[0] else .tuple us.toArray) w := by
    unfold results
    rw [show (fnOf P f).results = (fnOf P f).results.toList.toArray from by simp, List.mapM_toArray]
    simp only [Sem.run_bind, Sem.run_map]
    rw [h3]
    · simp
    · intro u; rfl
    · intro u ty; rfl
  rw [hrun]
  congr 1
  rcases us with _ | ⟨v, _ | ⟨u, r⟩⟩ <;> simp [pack]
theorem decSpec_res {ρ : Type} {out : ρ} {P : Program} {f : FuncId} {a : Act} {d : List Deferred × Nat} {l : List IV} {us : List Value} (hn : n0 = 0) (h : AtR P f n0 S0 L0 w0 d S L l us H a w) {s : Spec} (hl : l.length = s.ss.length) {K : Holes s → Option ρ} (hk : decSpec s l H K = some out) :
    ∃ x, K x = some out ∧ ∃ S' L', AtR P f n0 S0 L0 w0 d S' L' (rebT s x) us (rebH s x) a w := by
  obtain ⟨x, h1, S', L', h2, h3, h4, h5, h6⟩ := decSpec_sound h.ext.inv hk h.vals
  refine ⟨x, h1, S', L', h.ext.re h4 h2 h3 h6 (fun i lo h _ _ => by omega) (by omega), ?_, h.defers, h.runs⟩
  rwa [← hl, ← h.vals.length, List.take_length] at h5

/-! ### What a piece comes to -/
structure Post {ρ : Type} (P : Program) (f : FuncId) (n0 : Nat) (S0 : Mem) (L0 : Locs) (w0 : World) (d : List Deferred × Nat) (out : ρ) (kn : KN ρ) (kx : KX ρ) (kr : KN ρ) (Q : Exit → Act → World → Prop) : Prop where
  normal : ∀ S L t H a w, At n0 S0 L0 w0 d S L t H a w → kn t H = some out → Q .normal a w
  exit : ∀ id S L t H a w, At n0 S0 L0 w0 d S L t H a w → kx id t H = some out → Q (.exit id) a w
  ret : ∀ S L l us H a w, AtR P f n0 S0 L0 w0 d S L l us H a w → kr l H = some out → Q .ret a w
def kontN {ρ : Type} (k : OKind) (kn : KN ρ) (kx : KX ρ) (t : List IV) (H : Hp) : Option ρ := match k with
  | .nrm => kn t H
  | .ext id => kx id t H
  | .ret => none
theorem injK_state {ρ : Type} {P : Program} {f : FuncId} {n : Nat} {a : Act} (hn : n0 = 0) (h : At n0 S0 L0 w0 (ds, n) S L t H a w) {k : OKind} (hk : k ≠ .ret) : ∀ {cs : Cut} {out : Outs cs}, injK cs k t H some = some out →
    ∃ S' L' t' H', At n0 S0 L0 w0 (ds, n) S' L' t' H' a w ∧ ∀ (kn : KN ρ) (kx : KX ρ) (kr : KN ρ), contK cs n out kn kx kr = kontN k kn kx t' H' := by
  have gen : ∀ {ρ' : Type} {o : ρ'} {cs : Cut} {K : Outs cs → Option ρ'}, injK cs k t H K = some o → ∃ out : Outs cs, K out = some o ∧
      ∃ S' L' t' H', At n0 S0 L0 w0 (ds, n) S' L' t' H' a w ∧ ∀ (kn : KN ρ) (kx : KX ρ) (kr : KN ρ), contK cs n out kn kx kr = kontN k kn kx t' H' := by
    intro ρ' o cs
    induction cs generalizing o with
    | nil => intro K h; cases h
    | cons c l ih =>
      intro K hj
      cases l with
      | nil =>
        simp only [injK] at hj
        split at hj
        · rename_i e
          obtain ⟨x, h1, S', L', h2⟩ := h.told hn hj
          refine ⟨x, h1, S', L', _, _, h2, fun kn kx kr => ?_⟩
          simp only [contK, contS, Sum.elim_inl, Sum.elim_inr]
          rw [e]
          cases k with
          | nrm => rfl
          | ext id => rfl
          | ret => exact absurd rfl hk
        · cases hj
      | cons c2 l =>
        simp only [injK] at hj
        split at hj
        · rename_i e
          obtain ⟨x, h1, S', L', h2⟩ := h.told hn hj
          refine ⟨.inl x, h1, S', L', _, _, h2, fun kn kx kr => ?_⟩
          simp only [contK, contS, Sum.elim_inl, Sum.elim_inr]
          rw [e]
          cases k with
          | nrm => rfl
          | ext id => rfl
          | ret => exact absurd rfl hk
        · obtain ⟨out, h1, S', L', t', H', h2, h3⟩ := ih hj
          exact ⟨.inr out, h1, S', L', t', H', h2, h3⟩
  intro cs out hj
  obtain ⟨o, h1, h2⟩ := gen hj
  cases h1
  exact h2
theorem injK_res {ρ : Type} {P : Program} {f : FuncId} {n : Nat} {d : List Deferred × Nat} {a : Act} {l : List IV} {us : List Value} (hn : n0 = 0) (h : AtR P f n0 S0 L0 w0 d S L l us H a w) : ∀ {cs : Cut} {out : Outs cs}, injR cs l H some = some out →
    ∃ S' L' l' H', AtR P f n0 S0 L0 w0 d S' L' l' us H' a w ∧ ∀ (kn : KN ρ) (kx : KX ρ) (kr : KN ρ), contK cs n out kn kx kr = kr l' H' := by
  have gen : ∀ {ρ' : Type} {o : ρ'} {cs : Cut} {K : Outs cs → Option ρ'}, injR cs l H K = some o → ∃ out : Outs cs, K out = some o ∧
      ∃ S' L' l' H', AtR P f n0 S0 L0 w0 d S' L' l' us H' a w ∧ ∀ (kn : KN ρ) (kx : KX ρ) (kr : KN ρ), contK cs n out kn kx kr = kr l' H' := by
    intro ρ' o cs
    induction cs generalizing o with
    | nil => intro K h; cases h
    | cons c q ih =>
      intro K hj
      cases q with
      | nil =>
        simp only [injR] at hj
        split at hj
        · rename_i e
          obtain ⟨x, h1, S', L', h2⟩ := decSpec_res hn h e.2 hj
          refine ⟨x, h1, S', L', _, _, h2, fun kn kx kr => ?_⟩
          simp only [contK, contS, Sum.elim_inl, Sum.elim_inr]
          rw [e.1]
        · cases hj
      | cons c2 q =>
        simp only [injR] at hj
        split at hj
        · rename_i e
          obtain ⟨x, h1, S', L', h2⟩ := decSpec_res hn h e.2 hj
          refine ⟨.inl x, h1, S', L', _, _, h2, fun kn kx kr => ?_⟩
          simp only [contK, contS, Sum.elim_inl, Sum.elim_inr]
          rw [e.1]
        · obtain ⟨out, h1, S', L', t', H', h2, h3⟩ := ih hj
          exact ⟨.inr out, h1, S', L', t', H', h2, h3⟩
  intro cs out hj
  obtain ⟨o, h1, h2⟩ := gen hj
  cases h1
  exact h2
/-- What an answer of a piece leads to. -/
theorem Post.cut {ρ : Type} {out : ρ} {P : Program} {f : FuncId} {n : Nat} (hn : n0 = 0) {kn : KN ρ} {kx : KX ρ} {kr : KN ρ} {Q : Exit → Act → World → Prop} {cs : Cut} {o : Outs cs} (h : contK cs n o kn kx kr = some out) (hp : Post P f n0 S0 L0 w0 (ds, n) out kn kx kr Q) :
    Post P f n0 S0 L0 w0 (ds, n) o (fun t H => injK cs .nrm t H some) (fun j t H => injK cs (.ext j) t H some) (fun l H => injR cs l H some) Q where
  normal := fun S L t H a w hat hk => by
    obtain ⟨S', L', t', H', h1, h2⟩ := injK_state (P := P) (f := f) hn hat (by simp) hk
    rw [h2] at h
    exact hp.normal _ _ _ _ _ _ h1 h
  exit := fun id S L t H a w hat hk => by
    obtain ⟨S', L', t', H', h1, h2⟩ := injK_state (P := P) (f := f) hn hat (by simp) hk
    rw [h2] at h
    exact hp.exit id _ _ _ _ _ _ h1 h
  ret := fun S L l us H a w hat hk => by
    obtain ⟨S', L', l', H', h1, h2⟩ := injK_res (n := n) hn hat hk
    rw [h2] at h
    exact hp.ret _ _ _ _ _ _ _ h1 h
/-! ### Code -/
def LoopOK (E : Env) (T : Tab) (k : Nat) (lp : FuncId → Code → HT → (hd : Spec) → (cs : Cut) → Holes hd → Option (Outs cs)) : Prop := ∀ f body h hd cs x o, lp f body h hd cs x = some o → codeOK E f body = true →
  ∀ S0 L0 w0 ds S L a w, Good T S0 L0 w0 → At 0 S0 L0 w0 (ds, (fnOf E.P f).ntmps) S L (padT (fnOf E.P f).ntmps (rebT hd x)) (rebH hd x) a w → ∀ Q, Post E.P f 0 S0 L0 w0 (ds, (fnOf E.P f).ntmps) o (fun _ _ => none) (fun j t H => injK cs (.ext j) t H some) (fun l H => injR cs l H some) Q → Code.rounds E.P body Q k a w
def GoOK (E : Env) (T : Tab) (k : Nat) (go : FuncId → Code → List IV → Hp → (ρ : Type) → KX ρ → KN ρ → Option ρ) : Prop := ∀ f body t H ρ out kx kr, go f body t H ρ kx kr = some out → codeOK E f body = true →
  ∀ n0 S0 L0 w0 ds S L a w, (E.plan f = true → n0 = 0) → Good T S0 L0 w0 → At n0 S0 L0 w0 (ds, (fnOf E.P f).ntmps) S L t H a w → ∀ Q, Post E.P f n0 S0 L0 w0 (ds, (fnOf E.P f).ntmps) out (fun _ _ => none) kx kr Q → Code.rounds E.P body Q k a w
/-- What a piece by itself stands for. -/
def PieceOK (E : Env) (T : Tab) (pc : FuncId → Code → HT → (ins : Spec) → (cs : Cut) → Holes ins → Option (Outs cs)) : Prop := ∀ f c h ins cs x o, pc f c h ins cs x = some o → codeOK E f c = true →
  ∀ S0 L0 w0 ds S L a w, Good T S0 L0 w0 → At 0 S0 L0 w0 (ds, (fnOf E.P f).ntmps) S L (padT (fnOf E.P f).ntmps (rebT ins x)) (rebH ins x) a w → ∀ Q, Post E.P f 0 S0 L0 w0 (ds, (fnOf E.P f).ntmps) o (fun t H => injK cs .nrm t H some) (fun j t H => injK cs (.ext j) t H some) (fun l H => injR cs l H some) Q → c.wp E.P Q a w
/-- What a piece of code may be cut into. -/
theorem wrapC_sound {ρ : Type} {out : ρ} {T : Tab} (hpc : PieceOK E T m.piece) (hg : Good T S0 L0 w0) {h : HT} {f : FuncId} {F : List IV → Hp → (σ : Type) → KN σ → KX σ → KN σ → Option σ} {kn : KN ρ} {kx : KX ρ} {kr : KN ρ} {a : Act} {c : Code} {Q : Exit → Act → World → Prop}
    (hn : n0 = 0 ∨ h = .no) (hok : codeOK E f c = true) (hw : wrapC h (fnOf E.P f).ntmps t H (m.piece f c h) F kn kx kr = some out) (hat : At n0 S0 L0 w0 (ds, (fnOf E.P f).ntmps) S L t H a w) (hp : Post E.P f n0 S0 L0 w0 (ds, (fnOf E.P f).ntmps) out kn kx kr Q)
    (go : F t H ρ kn kx kr = some out → c.wp E.P Q a w) : c.wp E.P Q a w := by
  unfold wrapC at hw
  split at hw
  · rename_i ins cs hc
    rcases hn with hn | rfl
    · obtain ⟨x, h1, S', L', h2⟩ := hat.told hn hw
      obtain ⟨o, h3, h4⟩ := obind_some h1
      have hp' := hp.cut hn h4
      subst hn
      exact hpc f c h ins cs x o h3 hok S0 L0 w0 ds S' L' a w hg h2 Q hp'
    · cases hc
  · exact go hw
theorem HT.sub_no {h : HT} (hn : n0 = 0 ∨ h = .no) : (n0 = 0 ∨ h.l = .no) ∧ (n0 = 0 ∨ h.r = .no) := by
  rcases hn with h1 | rfl
  · exact ⟨.inl h1, .inl h1⟩
  · exact ⟨.inr rfl, .inr rfl⟩
theorem exec_sound {k : Nat} {T : Tab} (hm : E.P.follows .mixedOrders = true) (hpc : PieceOK E T m.piece) (hcp : CallsOK E T m) (hlp : LoopOK E T k m.loop) (hgo : GoOK E T k m.go) (hg : Good T S0 L0 w0) {f : FuncId} (hpl : E.plan f = true → n0 = 0) :
    ∀ (c : Code) (h : HT) (S : Mem) (L : Locs) (t : List IV) (H : Hp) (a : Act) (w : World) (ρ : Type) (out : ρ) (kn : KN ρ) (kx : KX ρ) (kr : KN ρ) (Q : Exit → Act → World → Prop), (n0 = 0 ∨ h = .no) → codeOK E f c = true →
      exec E m f c h t H ρ kn kx kr = some out → At n0 S0 L0 w0 (ds, (fnOf E.P f).ntmps) S L t H a w → Post E.P f n0 S0 L0 w0 (ds, (fnOf E.P f).ntmps) out kn kx kr Q → c.wp E.P Q a w := by
  intro c
  induction c with
  | skip => intro h S L t H a w ρ out kn kx kr Q hn _ hx hat hp; exact wp_skip (hp.normal _ _ _ _ _ _ hat hx)
  | label l => intro h S L t H a w ρ out kn kx kr Q hn _ hx hat hp; exact wp_label (hp.normal _ _ _ _ _ _ hat hx)
  | region id ops draw =>
    intro h S L t H a w ρ out kn kx kr Q hn hok hx hat hp
    unfold exec at hx
    have hreg : (draw && (E.plan f && !regOK E ops)) = false → draw = false ∨ regOK E ops = true := fun h0 => by
      cases draw with
      | false => exact .inl rfl
      | true =>
        right
        cases hr : regOK E ops with
        | true => rfl
        | false =>
          cases hp' : E.plan f with
          | true => rw [hr, hp'] at h0; cases h0
          | false => simp [codeOK, hr, hp'] at hok
    split at hx
    · rename_i h0
      simp only [Bool.and_eq_true] at h0
      obtain ⟨rfl, h0⟩ := h0
      exact plan_sound hg hm hcp (hpl h0.1) hx hat hp.normal
    · rename_i h0 _
      obtain ⟨S', L', hat'⟩ := hat.frozen (bs := rowsL t ++ rowsH H) fun b hb lo hl => by
        simp only [List.contains_append, Bool.or_eq_true] at hb
        rcases hb with hb | hb
        · exact rowsL_box hat.tmps b hb lo hl
        · exact rowsH_box hat.ext.inv b hb lo hl
      exact region_sound hg hm hcp (hreg h0) hx hat' hp.normal
    · rename_i h0 _
      exact region_sound hg hm hcp (hreg h0) hx hat hp.normal
  | seq x y ihx ihy =>
    intro h S L t H a w ρ out kn kx kr Q hn hok hx hat hp
    refine wrapC_sound hpc hg hn hok hx hat hp fun hx => ?_
    simp only [codeOK, Bool.and_eq_true] at hok
    refine wp_seq (ihx h.l S L t H a w ρ out _ kx kr _ (HT.sub_no hn).1 hok.1 hx hat ⟨?_, ?_, ?_⟩)
    · intro S' L' t' H' a' w' hat' hk; exact ihy h.r S' L' t' H' a' w' ρ out kn kx kr Q (HT.sub_no hn).2 hok.2 hk hat' hp
    · intro id S' L' t' H' a' w' hat' hk; exact hp.exit id _ _ _ _ _ _ hat' hk
    · intro S' L' l us H' a' w' hat' hk; exact hp.ret _ _ _ _ _ _ _ hat' hk
  | cond c x y ihx ihy =>
    intro h S L t H a w ρ out kn kx kr Q hn hok hx hat hp
    refine wrapC_sound hpc hg hn hok hx hat hp fun hx => ?_
    simp only [codeOK, Bool.and_eq_true] at hok
    split at hx
    · rename_i v hv
      have hc : a.eval c = .bool v := by
        have := ev_rel (S := S) (L := L) hat.tmps c
        rw [hv] at this
        exact this
      refine wp_cond hc ?_
      cases v with
      | true => exact ihx h.l S L _ H a w ρ out kn kx kr Q (HT.sub_no hn).1 hok.1 hx (hat.know hv) hp
      | false => exact ihy h.r S L _ H a w ρ out kn kx kr Q (HT.sub_no hn).2 hok.2 hx (hat.know hv) hp
    · cases hx
  | block id x ih =>
    intro h S L t H a w ρ out kn kx kr Q hn hok hx hat hp
    refine wrapC_sound hpc hg hn hok hx hat hp fun hx => ?_
    refine wp_block (ih h.l S L t H a w ρ out kn _ kr _ (HT.sub_no hn).1 hok hx hat ⟨?_, ?_, ?_⟩)
    · intro S' L' t' H' a' w' hat' hk; exact hp.normal _ _ _ _ _ _ hat' hk
    · intro j S' L' t' H' a' w' hat' hk
      show if j = id then Q .normal a' w' else Q (.exit j) a' w'
      split
      · rename_i e; rw [if_pos e] at hk; exact hp.normal _ _ _ _ _ _ hat' hk
      · rename_i e; rw [if_neg e] at hk; exact hp.exit j _ _ _ _ _ _ hat' hk
    · intro S' L' l us H' a' w' hat' hk; exact hp.ret _ _ _ _ _ _ _ hat' hk
  | loop x ih =>
    intro h S L t H a w ρ out kn kx kr Q hn hok hx hat hp
    simp only [exec] at hx
    split at hx
    · rename_i hd cs ha
      have hn : n0 = 0 := hn.resolve_right (by simp)
      obtain ⟨y, h1, S', L', h2⟩ := hat.told hn hx
      obtain ⟨o, h3, h4⟩ := obind_some h1
      have hp' := hp.cut hn h4
      subst hn
      exact wp_loop_rounds k (hlp f x ha hd cs y o h3 hok S0 L0 w0 ds S' L' a w hg h2 Q ⟨(fun _ _ _ _ _ _ _ h => by cases h), hp'.exit, hp'.ret⟩)
    · exact wp_loop_rounds k (hgo f x t H ρ out kx kr hx hok n0 S0 L0 w0 ds S L a w hpl hg hat Q ⟨(fun _ _ _ _ _ _ _ h => by cases h), hp.exit, hp.ret⟩)
  | exit id => intro h S L t H a w ρ out kn kx kr Q hn _ hx hat hp; exact wp_exit (hp.exit id _ _ _ _ _ _ hat hx)
  | ret =>
    intro h S L t H a w ρ out kn kx kr Q hn _ hx hat hp
    obtain ⟨l, us, h1, h2⟩ := endK_sound hat hx
    exact wp_ret (hp.ret _ _ _ _ _ _ _ h2 h1)
  | rangeFunc f ps x y => intro h S L t H a w ρ out kn kx kr Q hn _ hx; cases hx
  | scope x => intro h S L t H a w ρ out kn kx kr Q hn _ hx; cases hx
  | goto l => intro h S L t H a w ρ out kn kx kr Q hn _ hx; cases hx
  | refuse why => intro h S L t H a w ρ out kn kx kr Q hn _ hx; cases hx

/-! ### The machine -/
/-- What is told of functions holds. -/
def ToldOK (E : Env) (T : Tab) : Prop := ∀ f g, E.intr f = some g → ∀ args r, g args = some r → ∀ S w vs, Good T S noL w → Inv S noL [] w → RPs S args vs →
  Calls E.P f vs.toArray w fun e w' => ∃ v S', e = .returned v ∧ (∀ b o u, S b o u → S' b o u) ∧ (∀ b o u, S' b o u → S b o u ∨ w.heap.size ≤ b) ∧ Inv S' noL [] w' ∧ Below w.heap.size w w' ∧ RP S' r v
/-- What is told of functions whose result is the caller's own holds. -/
def MineOK (E : Env) (T : Tab) : Prop := ∀ f g, E.intr f = some g → E.mine f = true → ∀ args t l, g args = some (.sl t l) → ∀ S w vs, Good T S noL w → Inv S noL [] w → RPs S args vs →
  Calls E.P f vs.toArray w fun e w' => ∃ v L', e = .returned v ∧ RI S L' (.row 0 (sizeTy t)) v ∧ Ext 0 S noL w S L' [.tc t l] w'
structure IntrOK (E : Env) (T : Tab) : Prop where
  told : ToldOK E T
  mine : MineOK E T
/-- The functions' regions have been looked at. -/
def OkOK (E : Env) : Prop := ∀ f fn c, E.ok f = true → E.P.funcs[f]? = some fn → fn.body = some c → codeOK E f c = true
theorem resIn_rel {ts : List TypeId} {p : PV} {xs : List PV} (h : resIn ts p = some xs) {v : Value} (hp : RP S p v) (hne : ∀ l, ts = l → xs.length = 1 → isOne ts = true) : ∃ us, v = pack us ∧ RPs S xs us := by
  unfold resIn at h
  cases h1 : isOne ts with
  | true => rw [h1] at h; cases h; exact ⟨[v], rfl, RPs_cons.2 ⟨hp, by simp [RPs]⟩⟩
  | false =>
    rw [h1] at h
    have hx : xs.length ≠ 1 := fun e => by rw [hne _ rfl e] at h1; cases h1
    have hpk : ∀ us : List Value, us.length ≠ 1 → Value.tuple ⟨us⟩ = pack us := fun us hu => by
      unfold pack
      split
      · simp at hu
      · rfl
    simp only [tupP] at h
    split at h
    · rename_i us
      cases h
      simp only [RP] at hp
      subst hp
      exact ⟨us.toList, hpk us.toList (by simpa using hx), RPs_mapV _⟩
    · cases h
      obtain ⟨cs, rfl, h2⟩ := hp
      exact ⟨cs, hpk cs (by rw [h2.length]; exact hx), h2⟩
    · cases h
/-- Functions gone through in place. -/
theorem inlI_sound {k : Nat} {T : Tab} (hm : E.P.follows .mixedOrders = true) (hok : OkOK E) (hpc : PieceOK E T m.piece) (hcp : CallsOK E T m) (hlp : LoopOK E T k m.loop) (hgo : GoOK E T k m.go) : InlOK E.P T (inlI E m) := by
  intro f args H ρ K out h S L w vs hg hi hargs
  unfold inlI at h
  split at h
  · rename_i fn hfn
    split at h
    · rename_i c hc
      split at h
      · rename_i hlen
        have hf := (okCall_run hfn vs.toArray w).2.1
        have hfo : fnOf E.P f = fn := by unfold fnOf; rw [hf]; rfl
        have hvl := hargs.length
        refine calls_of_wp hf hc ?_
        have hat : At H.length S L w ([], (fnOf E.P f).ntmps) S L (padT fn.ntmps args) H { tmps := vs.toArray ++ Array.replicate (fn.ntmps - vs.toArray.size) Go.undef, defers := [] } w := by
          refine ⟨Ext.refl hi (Nat.le_refl _), ?_, by rw [hfo]; simp; omega⟩
          have : (vs.toArray ++ Array.replicate (fn.ntmps - vs.toArray.size) Go.undef).toList = vs ++ List.replicate (fn.ntmps - args.length) Go.undef := by simp [hvl]
          simp only
          rw [this]
          unfold padT
          refine hargs.append ?_
          have := undefs_rel (S := S) (L := L) (vs := List.replicate (fn.ntmps - args.length) Go.undef)
          rwa [List.length_replicate] at this
        have fin : ∀ S' L' l us H' a' w', AtR E.P f H.length S L w ([], (fnOf E.P f).ntmps) S' L' l us H' a' w' → K l H' = some out → a'.defers = [] ∧ ∃ v, (results fn a'.tmps).run E.P w' = .ok v w' ∧ ∃ S' L' l us H', Ending.returned v = .returned (pack us) ∧ RIs S' L' l us ∧ Ext H.length S L w S' L' H' w' ∧ K l H' = some out := by
          intro S' L' l us H' a' w' hr hk
          have hd := hr.defers
          simp only [Prod.mk.injEq] at hd
          refine ⟨hd.1, pack us, ?_, S', L', l, us, H', rfl, hr.vals, hr.ext, hk⟩
          rw [← hfo]; exact hr.runs
        refine exec_sound (f := f) hm hpc hcp hlp hgo hg (fun h => by rw [hlen.2.2] at h; cases h) c .no S L _ H _ w _ _ _ _ _ _ (.inr rfl) (hok f fn c hlen.2.1 hf hc) h hat ⟨?_, ?_, ?_⟩
        · intro S' L' t' H' a' w' hat' hk
          obtain ⟨l, us, h1, h2⟩ := endK_sound hat' hk
          obtain ⟨g1, v, g2, g3⟩ := fin _ _ _ _ _ _ _ h2 h1
          exact ⟨g1, v, g2, g3⟩
        · intro id S' L' t' H' a' w' hat' hk; cases hk
        · intro S' L' l us H' a' w' hat' hk
          obtain ⟨g1, v, g2, g3⟩ := fin _ _ _ _ _ _ _ hat' hk
          exact ⟨g1, v, g2, g3⟩
      · cases h
    · cases h
  · cases h
theorem inlD_sound {k : Nat} {T : Tab} (hm : E.P.follows .mixedOrders = true) (hok : OkOK E) (hpc : PieceOK E T m.piece) (hcp : CallOK E.P T m.call) (hlp : LoopOK E T k m.loop) (hgo : GoOK E T k m.go) : ∀ d, InlOK E.P T (inlD E m d)
  | 0 => fun _ _ _ _ _ _ h => by cases h
  | d + 1 => inlI_sound (m := ⟨m.call, m.loop, m.go, m.piece, inlD E m d⟩) hm hok hpc ⟨hcp, inlD_sound hm hok hpc hcp hlp hgo d⟩ hlp hgo
theorem deep_ok {k : Nat} {T : Tab} (hm : E.P.follows .mixedOrders = true) (hok : OkOK E) (hpc : PieceOK E T m.piece) (hcp : CallOK E.P T m.call) (hlp : LoopOK E T k m.loop) (hgo : GoOK E T k m.go) : CallsOK E T (m.deep E) :=
  ⟨hcp, inlD_sound hm hok hpc hcp hlp hgo 4⟩
theorem body_sound {k : Nat} {T : Tab} (hm : E.P.follows .mixedOrders = true) (hin : IntrOK E T) (hok : OkOK E) (hpc : PieceOK E T m.piece) (hcp : CallOK E.P T m.call) (hlp : LoopOK E T k m.loop) (hgo : GoOK E T k m.go) : CallOK E.P T (bodyI E m) := by
  intro f s args x h S w vs hg hi hargs
  unfold bodyI at h
  split at h
  · rename_i fn hfn
    split at h
    · rename_i g hgf
      split at h
      · rename_i p hp
        split at h
        · rename_i xs hxs
          split at h
          · rename_i q l hmi
            simp only [Bool.and_eq_true] at hmi
            have hpx : p = .sl q l := by
              unfold resIn at hxs
              rw [hmi.2] at hxs
              simpa using hxs
            subst hpx
            refine (hin.mine f g hgf hmi.1 args q l hp S w vs hg hi hargs).mono ?_
            rintro e w' ⟨v, L', rfl, h1, h2⟩
            unfold retK at h
            split at h
            · rename_i hlen
              obtain ⟨y, g1, S'', L'', g2, g3, g4, g5, g6⟩ := decSpec_sound h2.inv h (RIs_cons.2 ⟨h1, (by simp [RIs] : RIs S L' [] [])⟩)
              cases g1
              refine ⟨[v], S'', L'', rfl, ?_, h2.re g4 g2 g3 g6 (fun i lo h _ _ => absurd h (Nat.not_lt_zero _)) (Nat.zero_le _)⟩
              rwa [← hlen, List.length_singleton, List.take_of_length_le (by simp)] at g5
            · cases h
          split at h
          · rename_i hone
            refine (hin.told f g hgf args p hp S w vs hg hi hargs).mono ?_
            rintro e w' ⟨v, S', rfl, h1, h2, h3, h4, h5⟩
            obtain ⟨us, rfl, h6⟩ := resIn_rel hxs h5 fun l _ hl => by
              simp only [Bool.or_eq_true, decide_eq_true_eq] at hone
              rcases hone with h | h
              · exact h
              · exact absurd hl h
            unfold retK at h
            split at h
            · rename_i hlen
              obtain ⟨y, g1, S'', L'', g2, g3, g4, g5, g6⟩ := decSpec_sound h3 h (RIs_mapP.2 h6)
              cases g1
              refine ⟨us, S'', L'', rfl, ?_, g4, ⟨h4.os, h4.tape, h4.output, h4.size, fun k hk _ => h4.block k hk⟩, fun b o u h => g2 _ _ _ (h1 _ _ _ h), fun b o u h => ?_, fun i lo h h0 => (own_noL (g6 i lo h h0)).elim, fun i lo hlt => absurd hlt (Nat.not_lt_zero _), Nat.zero_le _⟩
              · rwa [← hlen, List.length_map, ← h6.length, List.take_length] at g5
              · rcases g3 b o u h with h | h
                · exact (h2 _ _ _ h).imp id .inr
                · exact (own_noL h).elim
            · cases h
          · cases h
        · cases h
      · cases h
    · split at h
      · rename_i c hc
        split at h
        · rename_i hlen
          have hf := (okCall_run hfn vs.toArray w).2.1
          have hfo : fnOf E.P f = fn := by unfold fnOf; rw [hf]; rfl
          have hvl := hargs.length
          refine calls_of_wp hf hc ?_
          have hat : At 0 S noL w ([], (fnOf E.P f).ntmps) S noL (padT fn.ntmps (args.map .p)) [] { tmps := vs.toArray ++ Array.replicate (fn.ntmps - vs.toArray.size) Go.undef, defers := [] } w := by
            refine ⟨Ext.refl hi (Nat.le_refl _), ?_, by rw [hfo]; simp; omega⟩
            have : (vs.toArray ++ Array.replicate (fn.ntmps - vs.toArray.size) Go.undef).toList = vs ++ List.replicate (fn.ntmps - (args.map IV.p).length) Go.undef := by simp [hvl]
            simp only
            rw [this]
            unfold padT
            refine (RIs_mapP.2 hargs).append ?_
            have := undefs_rel (S := S) (L := noL) (vs := List.replicate (fn.ntmps - (args.map IV.p).length) Go.undef)
            rwa [List.length_replicate] at this
          have fin : ∀ S' L' l us H' a' w', AtR E.P f 0 S noL w ([], (fnOf E.P f).ntmps) S' L' l us H' a' w' → retK s l H' = some x → a'.defers = [] ∧ ∃ v, (results fn a'.tmps).run E.P w' = .ok v w' ∧ ∃ us S' L', Ending.returned v = .returned (pack us) ∧ RIs S' L' (rebT s x) us ∧ Ext 0 S noL w S' L' (rebH s x) w' := by
            intro S' L' l us H' a' w' hr hk
            unfold retK at hk
            split at hk
            · rename_i hl
              obtain ⟨y, g1, S'', L'', g2⟩ := decSpec_res rfl hr hl hk
              cases g1
              have hd := hr.defers
              simp only [Prod.mk.injEq] at hd
              refine ⟨hd.1, pack us, ?_, us, S'', L'', rfl, g2.vals, g2.ext⟩
              rw [← hfo]; exact hr.runs
            · cases hk
          refine exec_sound (f := f) (m := m.deep E) hm hpc (deep_ok hm hok hpc hcp hlp hgo) hlp hgo hg (fun _ => rfl) c (E.hint f) S noL _ [] _ w _ _ _ _ _ _ (.inl rfl) (hok f fn c hlen.2 hf hc) h hat ⟨?_, ?_, ?_⟩
          · intro S' L' t' H' a' w' hat' hk
            obtain ⟨l, us, h1, h2⟩ := endK_sound hat' hk
            obtain ⟨g1, v, g2, g3⟩ := fin _ _ _ _ _ _ _ h2 h1
            exact ⟨g1, v, g2, g3⟩
          · intro id S' L' t' H' a' w' hat' hk; cases hk
          · intro S' L' l us H' a' w' hat' hk
            obtain ⟨g1, v, g2, g3⟩ := fin _ _ _ _ _ _ _ hat' hk
            exact ⟨g1, v, g2, g3⟩
        · cases h
      · cases h
  · cases h
/-- The ideal machine's runs are the model's. -/
theorem mach_sound' {T : Tab} (hm : E.P.follows .mixedOrders = true) (hin : IntrOK E T) (hok : OkOK E) : ∀ k, CallOK E.P T (mach E k).call ∧ LoopOK E T k (mach E k).loop ∧ GoOK E T k (mach E k).go ∧ PieceOK E T (mach E k).piece
  | 0 => ⟨fun _ _ _ _ h => (by cases h), fun _ _ _ _ _ _ _ h => (by cases h), fun _ _ _ _ _ _ _ _ h => (by cases h), fun _ _ _ _ _ _ _ h => (by cases h)⟩
  | k + 1 => by
    obtain ⟨h1, h3, h4, h5⟩ := mach_sound' hm hin hok k
    refine ⟨body_sound hm hin hok h5 h1 h3 h4, ?_, ?_, ?_⟩
    · intro f body h hd cs x o hx hb S0 L0 w0 ds S L a w hg hat Q hp
      refine exec_sound (m := (mach E k).deep E) hm h5 (deep_ok hm hok h5 h1 h3 h4) h3 h4 hg (fun _ => rfl) body h S L _ _ a w _ _ _ _ _ _ (.inl rfl) hb hx hat ⟨?_, ?_, ?_⟩
      · intro S' L' t' H' a' w' hat' hk
        obtain ⟨y, g1, S'', L'', g2⟩ := hat'.told rfl hk
        exact h3 f body h hd cs y o g1 hb S0 L0 w0 ds S'' L'' a' w' hg g2 Q hp
      · intro id S' L' t' H' a' w' hat' hk; exact hp.exit id _ _ _ _ _ _ hat' hk
      · intro S' L' l us H' a' w' hat' hk; exact hp.ret _ _ _ _ _ _ _ hat' hk
    · intro f body t H ρ out kx kr hx hb n0 S0 L0 w0 ds S L a w hpl hg hat Q hp
      refine exec_sound (m := (mach E k).deep E) hm h5 (deep_ok hm hok h5 h1 h3 h4) h3 h4 hg hpl body .no S L _ _ a w _ _ _ _ _ _ (.inr rfl) hb hx hat ⟨?_, ?_, ?_⟩
      · intro S' L' t' H' a' w' hat' hk
        exact h4 f body t' H' ρ out kx kr hk hb n0 S0 L0 w0 ds S' L' a' w' hpl hg hat' Q hp
      · intro id S' L' t' H' a' w' hat' hk; exact hp.exit id _ _ _ _ _ _ hat' hk
      · intro S' L' l us H' a' w' hat' hk; exact hp.ret _ _ _ _ _ _ _ hat' hk
    · intro f c h ins cs x o hx hb S0 L0 w0 ds S L a w hg hat Q hp
      exact exec_sound (m := (mach E k).deep E) hm h5 (deep_ok hm hok h5 h1 h3 h4) h3 h4 hg (fun _ => rfl) c h.bare S L _ _ a w _ _ _ _ _ _ (.inl rfl) hb hx hat hp
theorem mach_sound {T : Tab} (hm : E.P.follows .mixedOrders = true) (hin : IntrOK E T) (hok : OkOK E) (k : Nat) : CallOK E.P T (mach E k).call ∧ LoopOK E T k (mach E k).loop :=
  ⟨(mach_sound' hm hin hok k).1, (mach_sound' hm hin hok k).2.1⟩
end
end Go.Proofs.YtfaofikhabccoaaGreatDoor.Jv
