/- Regions that draw their order: the ideal machine's one order stands for every order; conditions: none. -/
import Derived.Test.YtfaofikhabccoaaGreatDoorJvRegion
namespace Go.Proofs.YtfaofikhabccoaaGreatDoor.Jv
open Go Go.RowKit
set_option linter.unusedVariables false
set_option linter.unusedSimpArgs false
section
variable {ρ : Type} {S : Mem} {L : Locs} {H : Hp} {w : World} {t t' : List IV} {vs : List Value} {out : ρ}
variable {n0 : Nat} {S0 : Mem} {L0 : Locs} {w0 : World} {ds : List Deferred × Nat}

theorem evL_congr {l : List Operand} (h : ∀ x ∈ l, evI t x = evI t' x) : evL t l = evL t' l := by
  induction l with
  | nil => rfl
  | cons x l ih => simp only [evL]; rw [h x (by simp), ih fun y hy => h y (by simp [hy])]
theorem evParts_congr {l : List (Nat × Operand)} (h : ∀ x ∈ l.map (·.2), evI t x = evI t' x) : evParts t l = evParts t' l := by
  induction l with
  | nil => rfl
  | cons p l ih => obtain ⟨i, x⟩ := p; simp only [evParts]; rw [h x (by simp), ih fun y hy => h y (by simp [hy])]
theorem optBound_congr {x : Option Operand} {d : Int} (h : ∀ y, x = some y → evI t y = evI t' y) : optBound t x d = optBound t' x d := by
  cases x with
  | none => rfl
  | some y => simp only [optBound]; rw [h y rfl]
theorem sliceK_congr {P : Program} {ty : TypeId} {x : IV} {lo hi : Option Operand} {K : IV → Option ρ} (h1 : ∀ y, lo = some y → evI t y = evI t' y) (h2 : ∀ y, hi = some y → evI t y = evI t' y) : sliceK P H ty x lo hi t K = sliceK P H ty x lo hi t' K := by
  unfold sliceK
  simp only [optBound_congr h1, optBound_congr h2]
theorem calleeOf_congr {g : Operand} {args : Array Operand} {tys : Array TypeId} (h : ∀ x ∈ (Call.mk (.value g) args tys).operands, evI t x = evI t' x) : calleeOf t ⟨.value g, args, tys⟩ = calleeOf t' ⟨.value g, args, tys⟩ := by
  have h1 : evI t g = evI t' g := h g (by simp [Call.operands])
  have h2 : evL t args.toList = evL t' args.toList := evL_congr fun x hx => h x (by simp [Call.operands]; right; simpa using hx)
  simp only [calleeOf, h1, h2]
theorem opK_congr {E : Env} {o : Oper} (hq : isQuiet E o = true) (h : ∀ x ∈ o.op.operands, evI t x = evI t' x) (K : IV → Option Nat → Hp → Option ρ) : opK E.P t H o K = opK E.P t' H o K := by
  obtain ⟨dst, op, type, pos, after, guard⟩ := o
  cases op <;> simp only [isQuiet] at hq <;> try (cases hq; done)
  all_goals simp only [Op.operands] at h
  case move x => simp only [opK, h x (by simp)]
  case assign x => simp only [opK, h x (by simp)]
  case pick c x y => simp only [opK, h c (by simp), h x (by simp), h y (by simp)]
  case build ty ps => simp only [opK, evParts_congr (t := t) (t' := t') (l := ps.toList) fun x hx => h x (by simpa using hx)]
  case load ty x => simp only [opK, h x (by simp)]
  case nilCheck x => simp only [opK, h x (by simp)]
  case binOp bop ty x y yt => simp only [opK, h x (by simp), h y (by simp)]
  case unOp uop ty x => simp only [opK, h x (by simp)]
  case convert src d x => simp only [opK, h x (by simp)]
  case makeFunc f first cap => simp only [opK, evL_congr (t := t) (t' := t') (l := cap.toList) fun x hx => h x (by simp; right; simpa using hx)]
  case slice ty x lo hi mx =>
    cases mx with
    | some m => rfl
    | none =>
      simp only [opK, h x (by simp)]
      exact sliceK_congr (fun y hy => h y (by simp [hy])) (fun y hy => h y (by simp [hy]))
  case fieldAddr s x f => simp only [opK, h x (by simp)]
  case field s x f => simp only [opK, h x (by simp)]
  case indexAddr ty x i => simp only [opK, h x (by simp), h i (by simp)]
  case index ty x i => simp only [opK, h x (by simp), h i (by simp)]
  case extract x i => simp only [opK, h x (by simp)]
  case call c =>
    obtain ⟨callee, args, argTypes⟩ := c
    have ha : ∀ l, args.toList = l → ∀ x ∈ l, evI t x = evI t' x := fun l hl x hx => h x (by
      have : x ∈ args := by rw [← Array.mem_toList_iff, hl]; exact hx
      simp [Call.operands]; right; exact this)
    cases callee with
    | value f => rfl
    | invoke r m => cases hq
    | builtin b =>
      cases b <;> simp only at hq <;> try (cases hq; done)
      case len =>
        unfold opK
        simp only
        cases hl : args.toList with
        | nil => rfl
        | cons x l =>
          cases l with
          | nil =>
            cases argTypes.toList with
            | nil => rfl
            | cons ty tys =>
              cases tys with
              | nil => simp only [ha _ hl x (by simp)]
              | cons _ _ => rfl
          | cons y l => rfl
      case min =>
        unfold opK
        simp only
        cases hl : args.toList with
        | nil => rfl
        | cons x l =>
          cases l with
          | nil => rfl
          | cons y l =>
            cases l with
            | nil => simp only [ha _ hl x (by simp), ha _ hl y (by simp)]
            | cons z l => rfl
      case max =>
        unfold opK
        simp only
        cases hl : args.toList with
        | nil => rfl
        | cons x l =>
          cases l with
          | nil => rfl
          | cons y l =>
            cases l with
            | nil => simp only [ha _ hl x (by simp), ha _ hl y (by simp)]
            | cons z l => rfl
theorem qres_congr {E : Env} {m : Mach} {o : Oper} (hq : isQuiet E o = true) (h : ∀ x ∈ o.op.operands, evI t x = evI t' x) : qres E m t H o = qres E m t' H o := by
  unfold qres
  split
  · rename_i g args tys hop
    rw [hop] at h
    rw [calleeOf_congr h]
  · exact opK_congr hq h _
theorem decT_once : ∀ (q : Ty) {xs : List PV} {K : T q → List PV → Option ρ}, decT q xs K = some out → ∃ x r, K x r = some out ∧ ∀ (ρ' : Type) (K' : T q → List PV → Option ρ'), decT q xs K' = K' x r
  | q, [], K, h => by cases q <;> simp only [decT] at h <;> cases h
  | .int k, x :: r, K, h => by
    simp only [decT] at h ⊢
    split at h
    · exact ⟨_, _, h, fun _ _ => rfl⟩
    · cases h
  | .u8, x :: r, K, h => by
    simp only [decT] at h ⊢
    split at h
    · obtain ⟨hb, h⟩ := chkR_some h
      exact ⟨_, _, h, fun _ _ => by rw [hb]; rfl⟩
    · cases h
  | .bool, x :: r, K, h => by
    simp only [decT] at h ⊢
    split at h
    · exact ⟨_, _, h, fun _ _ => rfl⟩
    · cases h
  | .str, x :: r, K, h => by
    simp only [decT] at h ⊢
    split at h
    · exact ⟨_, _, h, fun _ _ => rfl⟩
    · cases h
  | .err, x :: r, K, h => by
    simp only [decT] at h ⊢
    split at h
    · exact ⟨_, _, h, fun _ _ => rfl⟩
    · cases h
  | .sl t, x :: r, K, h => by
    simp only [decT] at h ⊢
    split at h
    · exact ⟨_, _, h, fun _ _ => rfl⟩
    · cases h
  | .pair a b, x :: r, K, h => by
    simp only [decT] at h ⊢
    obtain ⟨y, q, h1, h2⟩ := decT_once a h
    obtain ⟨z, q', h3, h4⟩ := decT_once b h1
    exact ⟨(y, z), q', h3, fun ρ' K' => by rw [h2, h4]⟩
  | .opt t, x :: r, K, h => by
    simp only [decT] at h ⊢
    split at h
    · split at h
      · rename_i e
        subst e
        exact ⟨_, r, h, fun _ _ => dif_pos rfl⟩
      · cases h
    · exact ⟨none, r, h, fun _ _ => rfl⟩
    · obtain ⟨y, q, h1, h2⟩ := decT_once t h
      split at h1
      · exact ⟨some y, r, h1, fun ρ' K' => by rw [h2]⟩
      · cases h1
    · cases h
theorem fixA_once {P : Program} : ∀ (ts : List TypeId) {xs : List PV} {K : List PV → Option ρ}, fixA P ts xs K = some out → ∃ l, K l = some out ∧ ∀ (ρ' : Type) (K' : List PV → Option ρ'), fixA P ts xs K' = K' l
  | [], xs, K, h => ⟨xs, by simpa [fixA] using h, fun _ _ => by simp [fixA]⟩
  | t :: ts, [], K, h => by cases h
  | t :: ts, x :: xs, K, h => by
    simp only [fixA] at h ⊢
    split at h
    · rename_i q hq
      split at h
      · rename_i hagg
        obtain ⟨y, r, h1, h2⟩ := decT_once q h
        split at h1
        · obtain ⟨l, h4, h5⟩ := fixA_once ts h1
          exact ⟨_, h4, fun ρ' K' => by rw [if_pos hagg, h2]; exact h5 _ _⟩
        · cases h1
      · cases h
    · obtain ⟨l, h4, h5⟩ := fixA_once ts h
      exact ⟨_, h4, fun ρ' K' => h5 _ _⟩
theorem cutO_quiet {E : Env} {o : Oper} (hq : isQuiet E o = true) : cutO E t o = none := by
  unfold cutO
  split
  · rename_i ty x hi he
    unfold isQuiet at hq
    rw [he] at hq
    have : E.cutT ty = false := by simpa using hq
    rw [this]
    rfl
  · rfl
/-- A quiet operation, once carried out. -/
theorem stepK_quiet {E : Env} {m : Mach} {o : Oper} {K : KN ρ} (hq : isQuiet E o = true) (h : stepK E m t H o K = some out) : ∃ r, qres E m t H o = some (r, H) ∧ K (putI t o.dst r) H = some out := by
  unfold stepK at h
  unfold qres
  split at h
  · rename_i g args tys hop
    rw [hop]
    simp only
    unfold callS at h
    split at h
    · rename_i f xs hcal
      rw [hcal]
      simp only
      have hg : g = .func f := by
        unfold isQuiet at hq
        rw [hop] at hq
        simp only at hq
        cases g <;> simp only at hq <;> try (cases hq; done)
        rename_i f'
        simp only [calleeOf, evI, Option.some.injEq, Prod.mk.injEq] at hcal
        rw [hcal.1]
      subst hg
      have hni2 : ((flatSp (E.res f) || E.strict f) = true ∧ (E.res f).bs = []) ∧ E.here f = false := by
        unfold isQuiet at hq
        rw [hop] at hq
        simpa using hq
      have hni := hni2.1
      rw [if_neg (by rw [hni2.2]; simp)] at h
      rw [if_pos hni.1]
      rw [if_pos (by rw [Bool.or_assoc, hni.1, Bool.or_true])] at h
      have hre : ∀ x, rebH (E.res f) x = [] := fun x => by
        unfold rebH
        rw [hni.2]
        rfl
      unfold callI at h ⊢
      split at h
      · split at h
        · obtain ⟨ps, h0, h00⟩ := fixA_once _ h
          obtain ⟨x, h1, h2⟩ := obind_some h0
          have h3 := chk_some h2
          have h4 := h3.2
          simp only [hre, mapH, List.append_nil] at h4
          refine ⟨_, ?_, h4⟩
          simp only
          rw [h00]
          unfold obind
          rw [h1]
          simp only [Option.bind_some]
          rw [h3.1, hre]
          simp [chk, mapH]
        · cases h
      · cases h
    · cases h
  · rename_i hop
    have hc : isCallV o.op = false := by
      unfold isCallV
      split
      · rename_i g _ _ he; exact absurd he (hop _ _ _)
      · rfl
    rw [cutO_quiet hq] at h
    obtain ⟨r, h1, h2⟩ := onceQ_op hq hc _ _ _ h
    refine ⟨r, ?_, h1⟩
    have := h2 _ fun r kl H' => match kl with | none => some (r, H') | some _ => none
    split
    · rename_i g args tys he; exact absurd he (hop _ _ _)
    · exact this
/-- What is known of a quiet operation's result serves wherever its operands are the same. -/
theorem qres_step {E : Env} {m : Mach} {T : Tab} (hg : Good T S0 L0 w0) (hcp : CallsOK E T m) {o : Oper} {a : Act} {r : IV} {H1 : Hp} (h : qres E m t H o = some (r, H1)) (hat : At n0 S0 L0 w0 ds S L t H a w)
    {next : Act → World → Prop} {Q : Exit → Act → World → Prop} (hnext : ∀ S' L' a' w', At n0 S0 L0 w0 ds S' L' (putI t o.dst r) H1 a' w' → next a' w') : o.wp E.P a w next Q := by
  have hi := hat.ext.inv
  have ht := hat.tmps
  unfold qres at h
  split at h
  · rename_i g args tys hop
    split at h
    · rename_i f xs hcal
      split at h
      · obtain ⟨fn, hfn⟩ := callI_fn h
        obtain ⟨dst, op, type, pos, after, guard⟩ := o
        simp only at hop
        subst hop
        obtain ⟨us, h1, h2⟩ := callee_run (P := E.P) (w := w) (dst := dst) (type := type) (pos := pos) (after := after) (guard := guard) ht hcal hfn
        unfold Oper.wp
        rw [h2, Oper.upon_enter]
        refine (callI_sound hcp.1 (hg.ext hat.ext) h hi h1).mono ?_
        rintro e w' ⟨v, S', L', r', H', rfl, h3, h4, h5, h6⟩
        cases h3
        exact hnext S' _ _ w' ⟨hat.ext.trans h4 hat.ext.len, put_rel (ht.mono h4.mem h6) dst h5, by rw [put_defers', hat.defers]⟩
      · cases h
    · cases h
  · obtain ⟨r', kl, H', h1, v, w', L', h2, h3, h4, h5⟩ := opK_sound hi ht h
    cases kl with
    | some b => cases h1
    | none =>
      cases h1
      unfold Oper.wp
      rcases h2 with h2 | ⟨h2, rfl⟩
      · rw [h2, Oper.upon_value]
        exact hnext S L' _ w' ⟨hat.ext.trans h3 hat.ext.len, put_rel h5 _ h4, by rw [put_defers', hat.defers]⟩
      · rw [h2, Oper.upon_skip]
        exact hnext S L' _ w' ⟨hat.ext.trans h3 hat.ext.len, put_rel h5 _ h4, by rw [put_defers', hat.defers]⟩

/-! ### Operations that make a block; operations that ask nothing of the blocks -/
theorem alloc_congr {E : Env} {m : Mach} {o : Oper} (hq : isAlloc o = true) (h : ∀ x ∈ o.op.operands, evI t x = evI t' x) : qres E m t H o = qres E m t' H o := by
  obtain ⟨dst, op, type, pos, after, guard⟩ := o
  cases op <;> simp only [isAlloc] at hq <;> try (cases hq; done)
  all_goals simp only [Op.operands] at h
  case alloc e => rfl
  case box ty x => simp only [qres, opK, h x (by simp)]
  case buildSlice ty n ps => simp only [qres, opK, evParts_congr (t := t) (t' := t') (l := ps.toList) fun x hx => h x (by simpa using hx)]
theorem free_any {E : Env} {m : Mach} {o : Oper} (hq : isFree o = true) {r : IV} (h : qres E m t H o = some (r, H)) (H1 : Hp) : qres E m t H1 o = some (r, H1) := by
  have key : ∀ K : IV → Option Nat → Hp → Option (IV × Hp), opK E.P t H1 o K = opK E.P t H o fun r kl _ => K r kl H1 := by
    intro K
    obtain ⟨dst, op, type, pos, after, guard⟩ := o
    cases op <;> simp only [isFree] at hq <;> first
      | (cases hq; done)
      | rfl
      | (simp only [opK]; done)
      | (unfold opK; simp only; done)
      | skip
    all_goals (unfold opK; simp only; split <;> first | rfl | (split <;> rfl))
  have hc : isCallV o.op = false := by
    unfold isCallV
    split
    · rename_i g _ _ he; unfold isFree at hq; rw [he] at hq; cases hq
    · rfl
  have hqq : isQuiet E o = true := by
    unfold isFree at hq
    unfold isQuiet
    split at hq <;> simp_all
  have e1 : ∀ H2, qres E m t H2 o = opK E.P t H2 o fun r kl H' => match kl with | none => some (r, H') | some _ => none := fun H2 => by
    unfold qres
    split
    · rename_i g args tys he; rw [he] at hc; cases hc
    · rfl
  rw [e1] at h ⊢
  obtain ⟨r', h1, h2⟩ := onceQ_op (t := t) (H := H) hqq hc _ _ _ h
  cases h1
  rw [key]
  exact h2 _ _
theorem free_call {o : Oper} (hq : isFree o = true) : isCallV o.op = false := by
  unfold isCallV
  split
  · rename_i g _ _ he; unfold isFree at hq; rw [he] at hq; cases hq
  · rfl
theorem free_quiet {E : Env} {o : Oper} (hq : isFree o = true) : isQuiet E o = true := by
  unfold isFree at hq
  unfold isQuiet
  split at hq <;> simp_all
theorem mono_quiet {E : Env} {o : Oper} (hq : isMono E o = true) : isQuiet E o = true := by
  unfold isMono at hq
  split at hq
  · rename_i he; unfold isQuiet; rw [he]
  · rename_i he; unfold isQuiet; rw [he]
  · rename_i f _ _ he
    unfold isQuiet
    rw [he]
    simp only [Bool.and_eq_true, pureSp] at hq ⊢
    exact ⟨⟨hq.1.1, hq.1.2.1⟩, hq.2⟩
  · exact free_quiet hq
theorem get_more {H : Hp} (X : Hp) {b : Nat} {k : Blk} (h : H[b]? = some k) : (H ++ X)[b]? = some k := by
  rw [List.getElem?_append_left (List.getElem?_eq_some_iff.1 h).1]; exact h
theorem freezeL_more {f g : IV → Option PV} : ∀ {l : List IV} {r : List PV}, (∀ x ∈ l, ∀ y, f x = some y → g x = some y) → freezeL f l = some r → freezeL g l = some r
  | [], r, _, h => h
  | x :: l, r, hfg, h => by
    unfold freezeL at h ⊢
    cases hx : f x with
    | none => rw [hx] at h; cases h
    | some y =>
      rw [hx] at h
      rw [hfg x (by simp) y hx]
      simp only at h ⊢
      cases hl : freezeL f l with
      | none => rw [hl] at h; cases h
      | some q =>
        rw [hl] at h
        rw [freezeL_more (fun z hz => hfg z (by simp [hz])) hl]
        exact h
theorem freeze_more {H : Hp} (X : Hp) : ∀ (k : Nat) (x : IV) (y : PV), freeze H k x = some y → freeze (H ++ X) k x = some y
  | k, .p x, y, h => by cases k <;> simpa [freeze] using h
  | 0, .agg l, y, h => by simp [freeze] at h
  | 0, .tup l, y, h => by simp [freeze] at h
  | k + 1, .agg l, y, h => by
    simp only [freeze] at h ⊢
    cases hl : freezeL (freeze H k) l with
    | none => rw [hl] at h; cases h
    | some q => rw [hl] at h; rw [freezeL_more (fun z _ w hw => freeze_more X k z w hw) hl]; exact h
  | k + 1, .tup l, y, h => by
    simp only [freeze] at h ⊢
    cases hl : freezeL (freeze H k) l with
    | none => rw [hl] at h; cases h
    | some q => rw [hl] at h; rw [freezeL_more (fun z _ w hw => freeze_more X k z w hw) hl]; exact h
  | k, .row b sz, y, h => by
    cases hb : H[b]? with
    | none => cases k <;> simp [freeze, hb] at h
    | some q => cases k <;> (simp only [freeze, hb] at h; simp only [freeze, get_more X hb]; exact h)
  | k, .rw b sz a n, y, h => by
    cases hb : H[b]? with
    | none => cases k <;> simp [freeze, hb] at h
    | some q => cases k <;> (simp only [freeze, hb] at h; simp only [freeze, get_more X hb]; exact h)
  | 0, .ptr b off, y, h => by simp [freeze] at h
  | k + 1, .ptr b off, y, h => by
    cases hb : H[b]? with
    | none => simp [freeze, hb] at h
    | some q =>
      simp only [freeze, hb] at h
      simp only [freeze, get_more X hb]
      cases q with
      | gc l =>
        simp only at h ⊢
        cases hl : freezeL (freeze H k) (l.drop off) with
        | none => rw [hl] at h; cases h
        | some q => rw [hl] at h; rw [freezeL_more (fun z _ w hw => freeze_more X k z w hw) hl]; exact h
      | _ => exact h
  | k, .eptr b sz j off, y, h => by cases k <;> simp [freeze] at h
  | k, .fn f c, y, h => by cases k <;> simp [freeze] at h
  | k, .it b, y, h => by cases k <;> simp [freeze] at h
  | k, .undef, y, h => by cases k <;> simp [freeze] at h
theorem lendL_more {H : Hp} (X : Hp) {l : List IV} {r : List PV} (h : lendL H l = some r) : lendL (H ++ X) l = some r := freezeL_more (fun z _ w hw => freeze_more X 3 z w hw) h
/-- Parts without handles. -/
def PU (x : IV) : Prop := (∃ y, x = .p y) ∨ x = .undef
theorem rebA_pure {a : SA} (h : pureA a = true) (d : List Dyn) : PU (rebA a d).1 := by
  cases a with
  | drop => exact .inr rfl
  | ty t =>
    cases d with
    | nil => exact .inr rfl
    | cons e d =>
      cases e with
      | nat n => exact .inr rfl
      | ty t' x =>
        show PU (headP (cellsT t' x))
        cases cellsT t' x with
        | nil => exact .inr rfl
        | cons y _ => exact .inl ⟨y, rfl⟩
  | _ => cases h
theorem rebAs_pure : ∀ {l : List SA}, l.all pureA = true → ∀ d, ∀ x ∈ (rebAs l d).1, PU x
  | [], _, d, x, hx => by simp [rebAs] at hx
  | a :: l, h, d, x, hx => by
    simp only [List.all_cons, Bool.and_eq_true] at h
    simp only [rebAs] at hx
    rcases List.mem_cons.1 hx with e | e
    · subst e; exact rebA_pure h.1 d
    · exact rebAs_pure h.2 _ x e
theorem shA_PU {x : IV} (h : PU x) (n : Nat) : shA n x = x := by
  rcases h with ⟨y, rfl⟩ | rfl <;> rfl
theorem killL_PU {l : List IV} (h : ∀ x ∈ l, PU x) (n : Nat) : killL (shA n) l = l := by
  induction l with
  | nil => rfl
  | cons x l ih => rw [killL, shA_PU (h x (by simp)), ih fun y hy => h y (by simp [hy])]
theorem mkAgg_pure {l : List IV} (h : ∀ x ∈ l, PU x) (n : Nat) : mapI (shA n) (mkAgg l) = mkAgg l := by
  unfold mkAgg
  split
  · rfl
  · show IV.agg (killL (shA n) l) = _
    rw [killL_PU h]
theorem rebS_pure {s : SS} (h : pureS s = true) (d : List Dyn) (n : Nat) : mapI (shA n) (rebS s d).1 = (rebS s d).1 := by
  cases s with
  | one a =>
    have := rebA_pure h d
    show mapI (shA n) (rebA a d).1 = (rebA a d).1
    rcases this with ⟨y, e⟩ | e <;> rw [e] <;> rfl
  | val t =>
    cases d with
    | nil => rfl
    | cons e d => cases e <;> rfl
  | agg l => exact mkAgg_pure (rebAs_pure h d) n
theorem rebSs_pure : ∀ {l : List SS}, l.all pureS = true → ∀ d n, killL (mapI (shA n)) (rebSs l d).1 = (rebSs l d).1
  | [], _, d, n => rfl
  | s :: l, h, d, n => by
    simp only [List.all_cons, Bool.and_eq_true] at h
    simp only [rebSs, killL]
    rw [rebS_pure h.1, rebSs_pure h.2]
theorem callI_more {E : Env} {m : Mach} {f : FuncId} {xs : List IV} {H : Hp} {r : IV} (hp : pureSp (E.res f) = true) (h : callI E m f xs H (fun r H' => some (r, H')) = some (r, H)) (X : Hp) :
    callI E m f xs (H ++ X) (fun r H' => some (r, H')) = some (r, H ++ X) := by
  simp only [pureSp, Bool.and_eq_true, List.isEmpty_iff] at hp
  have hH : ∀ x n, mapH (shA n) (rebH (E.res f) x) = [] := fun x n => by
    unfold rebH
    rw [hp.1]
    rfl
  have hT : ∀ x n, killL (mapI (shA n)) (rebT (E.res f) x) = rebT (E.res f) x := fun x n => rebSs_pure hp.2 _ n
  unfold callI at h ⊢
  split at h
  · rename_i fn hfn
    split at h
    · rename_i ps hps
      rw [lendL_more X hps]
      simp only
      obtain ⟨l, h1, h2⟩ := fixA_once _ h
      rw [h2]
      obtain ⟨x, h3, h4⟩ := obind_some h1
      rw [h3]
      obtain ⟨h5, h6⟩ := chk_some h4
      show chk _ _ = _
      rw [h5]
      simp only [hT, hH, List.append_nil] at h6 ⊢
      cases h6
      rfl
    · cases h
  · cases h
theorem mono_more {E : Env} {m : Mach} {o : Oper} (hq : isMono E o = true) {r : IV} (h : qres E m t H o = some (r, H)) (X : Hp) : qres E m t (H ++ X) o = some (r, H ++ X) := by
  have hqq := mono_quiet hq
  unfold isMono at hq
  split at hq
  · rename_i ty a he
    have hc : isCallV o.op = false := by rw [he]; rfl
    have e1 : ∀ H2, qres E m t H2 o = opK E.P t H2 o fun r kl H' => match kl with | none => some (r, H') | some _ => none := fun H2 => by
      unfold qres
      split
      · rename_i g args tys he; rw [he] at hc; cases hc
      · rfl
    rw [e1] at h ⊢
    obtain ⟨dst, op, type, pos, after, guard⟩ := o
    simp only at he
    subst he
    simp only [opK] at h ⊢
    split at h
    · rename_i l _
      obtain ⟨y, h1, h2⟩ := once_loadP E.P ty l _ _ _ h
      cases h1
      exact h2 _ _
    · rename_i q x _
      obtain ⟨z, rfl, h'⟩ := getO_some h
      obtain ⟨y, h1, h2⟩ := once_loadP E.P ty _ _ _ _ h'
      cases h1
      simp only [getO]
      exact h2 _ _
    · rename_i b off _
      unfold loadB at h ⊢
      cases hb : H[b]? with
      | none => rw [hb] at h; cases h
      | some k =>
        rw [hb] at h
        rw [get_more X hb]
        cases k with
        | pc l =>
          obtain ⟨y, h1, h2⟩ := once_loadP E.P ty _ _ _ _ h
          cases h1
          exact h2 _ _
        | gc l =>
          obtain ⟨y, h1, h2⟩ := once_loadG E.P ty _ _ _ _ h
          cases h1
          exact h2 _ _
        | _ => cases h
    · rename_i b sz j off _
      unfold loadE at h ⊢
      cases hb : H[b]? with
      | none => rw [hb] at h; cases h
      | some k =>
        rw [hb] at h
        rw [get_more X hb]
        cases k with
        | tc q l =>
          simp only at h ⊢
          split at h
          · rename_i hsz
            rw [if_pos hsz]
            obtain ⟨x, hx, h⟩ := getK_some h
            obtain ⟨y, h1, h2⟩ := once_loadP E.P ty _ _ _ _ h
            cases h1
            unfold getK
            rw [hx]
            exact h2 _ _
          · cases h
        | _ => cases h
    · cases h
  · rename_i ty ps he
    have hc : isCallV o.op = false := by rw [he]; rfl
    have e1 : ∀ H2, qres E m t H2 o = opK E.P t H2 o fun r kl H' => match kl with | none => some (r, H') | some _ => none := fun H2 => by
      unfold qres
      split
      · rename_i g args tys he; rw [he] at hc; cases hc
      · rfl
    rw [e1] at h ⊢
    obtain ⟨dst, op, type, pos, after, guard⟩ := o
    simp only at he
    subst he
    simp only [opK] at h ⊢
    split at h
    · rename_i hu
      rw [if_pos hu]
      split at h
      · cases h; rfl
      · cases h
    · cases h
  · rename_i f args tys he
    simp only [Bool.and_eq_true] at hq
    unfold qres at h ⊢
    rw [he] at h ⊢
    simp only at h ⊢
    have hcal : ∀ xs g, calleeOf t { callee := .value (.func f), args := args, argTypes := tys } = some (g, xs) → g = f := fun xs g hg => by
      unfold calleeOf at hg
      simp only [evI] at hg
      cases hg
      rfl
    split at h
    · rename_i g xs hg
      obtain rfl := hcal xs g hg
      rw [if_pos (by simpa using hq.1.1)] at h ⊢
      exact callI_more hq.1.2 h X
    · cases h
  · exact free_any hq h _
theorem decRow_once (q : Ty) {n : Nat} {l : List PV} {Kl : List (T q) → Option ρ} (h : decRow q n l Kl = some out) : ∃ xs, Kl xs = some out ∧ ∀ (ρ' : Type) (K' : List (T q) → Option ρ'), decRow q n l K' = K' xs := by
  induction n generalizing l Kl with
  | zero =>
    cases l with
    | nil => exact ⟨[], h, fun _ _ => rfl⟩
    | cons _ _ => cases h
  | succ n ih =>
    simp only [decRow] at h ⊢
    obtain ⟨x, r, h1, h2⟩ := decT_once q h
    obtain ⟨xs, h3, h4⟩ := ih h1
    exact ⟨x :: xs, h3, fun ρ' K' => by rw [h2, h4]⟩
theorem newK_once {l : List IV} {K : IV → Option Nat → Hp → Option ρ} (h : newK H l K = some out) : ∃ r e, K r none (H ++ [e]) = some out ∧ ∀ (ρ' : Type) (K' : IV → Option Nat → Hp → Option ρ'), newK H l K' = K' r none (H ++ [e]) := by
  unfold newK at h
  obtain ⟨h1, h2⟩ := chk_some h
  exact ⟨_, _, h2, fun _ K' => by unfold newK; rw [h1]; rfl⟩
theorem stepK_alloc {E : Env} {m : Mach} {o : Oper} {K : KN ρ} (hq : isAlloc o = true) (h : stepK E m t H o K = some out) : ∃ r e, qres E m t H o = some (r, H ++ [e]) ∧ K (putI t o.dst r) (H ++ [e]) = some out := by
  obtain ⟨dst, op, type, pos, after, guard⟩ := o
  cases op <;> simp only [isAlloc] at hq <;> try (cases hq; done)
  case alloc ty =>
    simp only [stepK, cutO, opK] at h
    simp only [qres, opK]
    split at h
    · split at h
      · rename_i n q hbig
        unfold newArrK at h ⊢
        obtain ⟨xs, h1, h2⟩ := decRow_once q h
        exact ⟨_, _, h2 _ _, h1⟩
      · obtain ⟨r, e, h1, h2⟩ := newK_once h
        exact ⟨r, e, h2 _ _, h1⟩
    · cases h
  case box ty x =>
    simp only [stepK, cutO, opK] at h
    simp only [qres, opK]
    split at h
    · cases h
    · obtain ⟨r, e, h1, h2⟩ := newK_once h
      exact ⟨r, e, h2 _ _, h1⟩
  case buildSlice ty n ps =>
    simp only [stepK, cutO, opK] at h
    simp only [qres, opK]
    split at h
    · rename_i hn
      rw [if_pos hn]
      split at h
      · rename_i sz l hb
        unfold newRowK at h ⊢
        split at h
        · rename_i q ps hq hps
          obtain ⟨h1, h2⟩ := chk_some h
          obtain ⟨xs, h3, h4⟩ := decRow_once q h2
          refine ⟨_, _, ?_, h3⟩
          rw [h1, h4]
          rfl
        · cases h
      · cases h
    · cases h
/-- The blocks behind those operations of a row that have been carried out. -/
def heapX (X : Nat → Bool) : Nat → List (List Blk) → Hp → Hp
  | _, [], H => H
  | k, e :: es, H => heapX X (k + 1) es (if X k = true then H ++ e else H)
def heapA : List (List Blk) → Hp → Hp
  | [], H => H
  | e :: es, H => heapA es (H ++ e)
/-- Blocks ahead of an operation are there; there may be more. -/
theorem heapX_more {X : Nat → Bool} : ∀ (es : List (List Blk)) (k i : Nat) (H : Hp), (∀ j e, es[j]? = some e → e ≠ [] → j < i → X (k + j) = true) → ∃ Y, heapX X k es H = heapA (es.take i) H ++ Y
  | [], _, _, H, _ => ⟨[], by simp [heapX, heapA]⟩
  | e :: es, k, 0, H, h => by
    obtain ⟨Y, hY⟩ := heapX_more (X := X) es (k + 1) 0 (if X k = true then H ++ e else H) fun j e' hj he hlt => absurd hlt (Nat.not_lt_zero _)
    rw [heapX, hY]
    simp only [List.take_zero, heapA]
    split
    · exact ⟨e ++ Y, by rw [List.append_assoc]⟩
    · exact ⟨Y, rfl⟩
  | e :: es, k, i + 1, H, h => by
    obtain ⟨Y, hY⟩ := heapX_more (X := X) es (k + 1) i (if X k = true then H ++ e else H) fun j e' hj he hlt => by
      have := h (j + 1) e' (by simpa using hj) he (by omega)
      rwa [show k + (j + 1) = k + 1 + j from by omega] at this
    refine ⟨Y, ?_⟩
    rw [heapX, hY]
    simp only [List.take_succ_cons, heapA]
    by_cases he : e = []
    · simp [he]
    · have := h 0 e rfl he (by omega)
      rw [Nat.add_zero] at this
      rw [if_pos this]
theorem heapX_agree {X : Nat → Bool} : ∀ (es : List (List Blk)) (k i : Nat) (H : Hp), (∀ j e, es[j]? = some e → e ≠ [] → (j < i → X (k + j) = true) ∧ (i ≤ j → X (k + j) = false)) → heapX X k es H = heapA (es.take i) H
  | [], _, _, _, _ => by simp [heapX, heapA]
  | e :: es, k, 0, H, h => by
    have h0 := h 0 e rfl
    have ih := heapX_agree (X := X) es (k + 1) 0 (if X k = true then H ++ e else H) fun j e' hj he => by
      have := h (j + 1) e' (by simpa using hj) he
      rw [show k + (j + 1) = k + 1 + j from by omega] at this
      exact ⟨fun h => absurd h (Nat.not_lt_zero _), fun _ => this.2 (Nat.zero_le _)⟩
    rw [heapX, ih]
    simp only [List.take_zero, heapA]
    split
    · rename_i hX
      by_cases he : e = []
      · simp [he]
      · have := (h0 he).2 (Nat.le_refl _)
        rw [Nat.add_zero, hX] at this
        cases this
    · rfl
  | e :: es, k, i + 1, H, h => by
    have h0 := h 0 e rfl
    have ih := heapX_agree (X := X) es (k + 1) i (if X k = true then H ++ e else H) fun j e' hj he => by
      have := h (j + 1) e' (by simpa using hj) he
      rw [show k + (j + 1) = k + 1 + j from by omega] at this
      exact ⟨fun h => this.1 (by omega), fun h => this.2 (by omega)⟩
    rw [heapX, ih]
    simp only [List.take_succ_cons, heapA]
    congr 1
    split
    · rfl
    · rename_i hX
      by_cases he : e = []
      · simp [he]
      · have := (h0 he).1 (Nat.succ_pos _)
        rw [Nat.add_zero] at this
        exact absurd this hX
theorem heapX_congr {X Y : Nat → Bool} : ∀ (es : List (List Blk)) (k : Nat) (H : Hp), (∀ j e, es[j]? = some e → e ≠ [] → X (k + j) = Y (k + j)) → heapX X k es H = heapX Y k es H
  | [], _, _, _ => rfl
  | e :: es, k, H, h => by
    rw [heapX, heapX]
    have ih := fun H => heapX_congr (X := X) (Y := Y) es (k + 1) H fun j e' hj he => by
      have := h (j + 1) e' (by simpa using hj) he
      rwa [show k + (j + 1) = k + 1 + j from by omega] at this
    rw [ih]
    by_cases he : e = []
    · subst he; simp
    · rw [show X k = Y k from h 0 e rfl he]
theorem heapX_none {X : Nat → Bool} (es : List (List Blk)) (k : Nat) (H : Hp) (h : ∀ j, j < es.length → X (k + j) = false) : heapX X k es H = H := by
  have := heapX_agree (X := X) es k 0 H fun j e hj _ => ⟨fun h => absurd h (Nat.not_lt_zero _), fun _ => h j (List.getElem?_eq_some_iff.1 hj).1⟩
  simpa [heapA] using this
theorem heapX_all {X : Nat → Bool} (es : List (List Blk)) (k : Nat) (H : Hp) (h : ∀ j, j < es.length → X (k + j) = true) : heapX X k es H = heapA es H := by
  have := heapX_agree (X := X) es k es.length H fun j e hj _ => ⟨fun _ => h j (List.getElem?_eq_some_iff.1 hj).1, fun hh => by have := (List.getElem?_eq_some_iff.1 hj).1; omega⟩
  rwa [List.take_length] at this
theorem heapA_take {es : List (List Blk)} : ∀ {i : Nat} {H : Hp} {e : List Blk}, es[i]? = some e → heapA (es.take (i + 1)) H = heapA (es.take i) H ++ e := by
  induction es with
  | nil => intro i H e h; simp at h
  | cons x es ih =>
    intro i H e h
    cases i with
    | zero => simp at h; subst h; simp [heapA]
    | succ i => simp only [List.take_succ_cons, heapA]; exact ih (by simpa using h)

/-! ### What some operations of a row have left -/
/-- The temporaries behind those operations of a row that have been carried out. -/
def foldX (X : Nat → Bool) : Nat → List (Option Tmp × IV) → List IV → List IV
  | _, [], t => t
  | k, (d, r) :: l, t => foldX X (k + 1) l (if X k = true then putI t d r else t)
def foldA : List (Option Tmp × IV) → List IV → List IV
  | [], t => t
  | (d, r) :: l, t => foldA l (putI t d r)
theorem putI_length (t : List IV) (d : Option Tmp) (r : IV) : (putI t d r).length = t.length := by cases d <;> simp [putI]
theorem putI_ne {t : List IV} {d : Option Tmp} {r : IV} {x : Tmp} (h : d ≠ some x) : (putI t d r).getD x .undef = t.getD x .undef := by
  cases d with
  | none => rfl
  | some y =>
    have : y ≠ x := fun e => h (by rw [e])
    simp [putI, List.getElem?_set_ne this]
theorem putI_eq {t t' : List IV} {r : IV} {x : Tmp} (hl : t.length = t'.length) : (putI t (some x) r).getD x .undef = (putI t' (some x) r).getD x .undef := by
  simp only [putI, List.getD_eq_getElem?_getD]
  by_cases h : x < t.length
  · rw [List.getElem?_set_self h, List.getElem?_set_self (hl ▸ h)]
  · have h1 : t.length ≤ x := Nat.le_of_not_lt h
    rw [List.getElem?_eq_none (by simpa using h1), List.getElem?_eq_none (by simpa [← hl] using h1)]
/-- A temporary whose writers ahead of place i have been carried out, and none behind. -/
theorem foldX_agree (X : Nat → Bool) (x : Tmp) : ∀ (l : List (Option Tmp × IV)) (k i : Nat) (t t' : List IV), t.length = t'.length → t.getD x .undef = t'.getD x .undef →
    (∀ j d r, l[j]? = some (d, r) → d = some x → (j < i → X (k + j) = true) ∧ (i ≤ j → X (k + j) = false)) → (foldX X k l t).getD x .undef = (foldA (l.take i) t').getD x .undef
  | [], k, i, t, t', _, h, _ => by simpa [foldX, foldA] using h
  | (d, r) :: l, k, 0, t, t', hl, h, hc => by
    have h0 := hc 0 d r rfl
    have ih := foldX_agree X x l (k + 1) 0 (if X k = true then putI t d r else t) t' (by split <;> simp [putI_length, hl]) (by
      split
      · rename_i hX
        rw [putI_ne (fun e => by have := (h0 e).2 (Nat.le_refl _); rw [Nat.add_zero, hX] at this; cases this)]
        exact h
      · exact h) (fun j d' r' hj hd => by
        have := hc (j + 1) d' r' (by simpa using hj) hd
        refine ⟨fun h => absurd h (Nat.not_lt_zero _), fun _ => ?_⟩
        have := this.2 (Nat.zero_le _)
        rwa [show k + (j + 1) = k + 1 + j from by omega] at this)
    simp only [List.take_zero] at ih ⊢
    rw [foldX]
    exact ih
  | (d, r) :: l, k, i + 1, t, t', hl, h, hc => by
    have h0 := hc 0 d r rfl
    have ih := foldX_agree X x l (k + 1) i (if X k = true then putI t d r else t) (putI t' d r) (by split <;> simp [putI_length, hl]) (by
      by_cases hd : d = some x
      · have := (h0 hd).1 (Nat.succ_pos _)
        rw [Nat.add_zero] at this
        rw [if_pos this]
        subst hd
        exact putI_eq hl
      · rw [putI_ne hd]
        split
        · rw [putI_ne hd]; exact h
        · exact h) (fun j d' r' hj hd => by
        have := hc (j + 1) d' r' (by simpa using hj) hd
        rw [show k + (j + 1) = k + 1 + j from by omega] at this
        exact ⟨fun h => this.1 (by omega), fun h => this.2 (by omega)⟩)
    rw [foldX]
    exact ih
theorem foldX_length (X : Nat → Bool) : ∀ (l : List (Option Tmp × IV)) (k : Nat) (t : List IV), (foldX X k l t).length = t.length
  | [], _, _ => rfl
  | (d, r) :: l, k, t => by rw [foldX, foldX_length]; split <;> simp [putI_length]
theorem foldX_congr {X Y : Nat → Bool} : ∀ (l : List (Option Tmp × IV)) (k : Nat) (t : List IV), (∀ j, j < l.length → X (k + j) = Y (k + j)) → foldX X k l t = foldX Y k l t
  | [], _, _, _ => rfl
  | (d, r) :: l, k, t, h => by
    rw [foldX, foldX, show X k = Y k from h 0 (by simp)]
    exact foldX_congr l (k + 1) _ fun j hj => by have := h (j + 1) (by simpa using hj); rwa [show k + (j + 1) = k + 1 + j from by omega] at this
theorem foldX_all {X : Nat → Bool} : ∀ (l : List (Option Tmp × IV)) (k : Nat) (t : List IV), (∀ j, j < l.length → X (k + j) = true) → foldX X k l t = foldA l t
  | [], _, _, _ => rfl
  | (d, r) :: l, k, t, h => by
    rw [foldX, foldA, if_pos (show X k = true from h 0 (by simp))]
    exact foldX_all l (k + 1) _ fun j hj => by have := h (j + 1) (by simpa using hj); rwa [show k + (j + 1) = k + 1 + j from by omega] at this
theorem foldX_none {X : Nat → Bool} : ∀ (l : List (Option Tmp × IV)) (k : Nat) (t : List IV), (∀ j, j < l.length → X (k + j) = false) → foldX X k l t = t
  | [], _, _, _ => rfl
  | (d, r) :: l, k, t, h => by
    rw [foldX, if_neg (by rw [show X k = false from h 0 (by simp)]; simp)]
    exact foldX_none l (k + 1) _ fun j hj => by have := h (j + 1) (by simpa using hj); rwa [show k + (j + 1) = k + 1 + j from by omega] at this
theorem putI_comm (t : List IV) (d e : Option Tmp) (r s : IV) (h : ∀ x, d = some x → e ≠ some x) : putI (putI t d r) e s = putI (putI t e s) d r := by
  cases d with
  | none => rfl
  | some x =>
    cases e with
    | none => rfl
    | some y =>
      have : y ≠ x := fun q => h x rfl (by rw [q])
      simp only [putI]
      rw [List.set_comm _ _ (Ne.symm this)]
theorem foldX_put {X : Nat → Bool} {d : Option Tmp} {r : IV} : ∀ (l : List (Option Tmp × IV)) (k : Nat) (t : List IV), (∀ j e s, l[j]? = some (e, s) → X (k + j) = true → ∀ x, d = some x → e ≠ some x) → foldX X k l (putI t d r) = putI (foldX X k l t) d r
  | [], _, _, _ => rfl
  | (e, s) :: l, k, t, h => by
    rw [foldX, foldX]
    have ih := foldX_put (X := X) (d := d) (r := r) l (k + 1) (if X k = true then putI t e s else t) fun j e' s' hj hX => h (j + 1) e' s' (by simpa using hj) (by rwa [show k + (j + 1) = k + 1 + j from by omega])
    rw [← ih]
    congr 1
    split
    · rename_i hX
      exact putI_comm t d e r s (h 0 e s rfl hX)
    · rfl
/-- One operation more. -/
theorem foldX_insert {X : Nat → Bool} {d : Option Tmp} {r : IV} : ∀ (l : List (Option Tmp × IV)) (k i : Nat) (t : List IV), l[i]? = some (d, r) → X (k + i) = false →
    (∀ j e s, i < j → l[j]? = some (e, s) → X (k + j) = true → ∀ x, d = some x → e ≠ some x) → foldX (fun q => if q = k + i then true else X q) k l t = putI (foldX X k l t) d r
  | [], _, _, _, h, _, _ => by simp at h
  | (e, s) :: l, k, 0, t, h, hX, hc => by
    simp only [List.getElem?_cons_zero, Option.some.injEq, Prod.mk.injEq] at h
    obtain ⟨rfl, rfl⟩ := h
    rw [foldX, foldX]
    simp only [Nat.add_zero, if_true] at hX ⊢
    rw [if_neg (by rw [hX]; simp)]
    rw [foldX_congr (Y := X) l (k + 1) _ fun j _ => by rw [if_neg (by omega)]]
    exact foldX_put l (k + 1) t fun j e' s' hj hX' => hc (j + 1) e' s' (Nat.succ_pos _) (by simpa using hj) (by rwa [show k + (j + 1) = k + 1 + j from by omega])
  | (e, s) :: l, k, i + 1, t, h, hX, hc => by
    rw [foldX, foldX]
    have hk : (if k = k + (i + 1) then true else X k) = X k := if_neg (by omega)
    rw [hk]
    have := foldX_insert (X := X) (d := d) (r := r) l (k + 1) i (if X k = true then putI t e s else t) (by simpa using h) (by rwa [show k + 1 + i = k + (i + 1) from by omega]) fun j e' s' hj hl hX' => hc (j + 1) e' s' (by omega) (by simpa using hl) (by rwa [show k + (j + 1) = k + 1 + j from by omega])
    rw [← this]
    refine foldX_congr l (k + 1) _ fun j _ => ?_
    simp only [show k + 1 + j = k + (i + 1) ↔ k + 1 + j = k + 1 + i from by omega]
end
end Go.Proofs.YtfaofikhabccoaaGreatDoor.Jv
