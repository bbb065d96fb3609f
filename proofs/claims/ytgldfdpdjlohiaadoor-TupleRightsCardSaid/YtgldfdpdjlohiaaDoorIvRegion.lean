/- Regions of operations: the ideal machine's one order stands for every order; conditions: none. -/
import Derived.Test.YtgldfdpdjlohiaaDoorIvStep
import Derived.Still
namespace Go.Proofs.YtgldfdpdjlohiaaDoor.Iv
open Go Go.RowKit
section
variable {S : Mem} {L : Locs} {H : Hp} {w : World} {t : List IV} {vs : List Value} {out : IV × Hp}
variable {n0 : Nat} {S0 : Mem} {L0 : Locs} {w0 : World} {ds : List Deferred × Nat}

theorem set_self {α : Type} {l : List α} {d : Nat} {v : α} (h : l[d]? = some v) : l.set d v = l := by
  apply List.ext_getElem?
  intro i
  rw [List.getElem?_set]
  split
  · rename_i e
    subst e
    split
    · exact h.symm
    · rename_i h1
      rw [List.getElem?_eq_none (by omega)] at h
      cases h
  · rfl
theorem getD_get {t : List IV} {d : Nat} {x : IV} (h : t.getD d .undef = x) (hx : x ≠ .undef) : t[d]? = some x := by
  rw [List.getD_eq_getElem?_getD] at h
  cases he : t[d]? with
  | none => rw [he] at h; exact absurd h.symm hx
  | some y => rw [he] at h; simp at h; rw [h]
/-- Is an operation to be carried out? -/
def wantedT (ops : List Oper) (t : List IV) (o : Oper) : Option Bool := match o.guard with
  | none => some true
  | some (j, want) => match dstOf ops j with
    | some d => match t.getD d .undef with
      | .p (.v (.bool b)) => some (b == want)
      | .p (.v (.tuple ⟨[]⟩)) => some false
      | _ => none
    | none => none
theorem wantedT_sound {ops : Array Oper} {o : Oper} {a : Act} {b : Bool} (h : wantedT ops.toList t o = some b) (ht : RIs S L t a.tmps.toList) : Region.wanted o (yielded ops a.tmps) = b := by
  unfold wantedT at h
  unfold Region.wanted
  split at h
  · rename_i hg; rw [hg]; cases h; rfl
  · rename_i j want hg
    rw [hg]
    simp only
    split at h
    · rename_i d hd
      have hd' : (ops[j]?).bind (·.dst) = some d := by
        unfold dstOf at hd
        rw [Array.getElem?_toList] at hd
        cases ho : ops[j]? with
        | none => rw [ho] at hd; cases hd
        | some o' => rw [ho] at hd; exact hd
      unfold yielded
      rw [hd']
      simp only [Option.bind_some]
      split at h
      · rename_i c hc
        cases h
        obtain ⟨v, h1, h2⟩ := ht.get (getD_get hc (by simp))
        simp only [RI, RP] at h2
        subst h2
        have : a.tmps[d]? = some (.bool c) := by rw [← Array.getElem?_toList]; exact h1
        rw [this]
        cases c <;> cases want <;> rfl
      · rename_i hc
        cases h
        obtain ⟨v, h1, h2⟩ := ht.get (getD_get hc (by simp))
        simp only [RI, RP] at h2
        subst h2
        have : a.tmps[d]? = some (.tuple ⟨[]⟩) := by rw [← Array.getElem?_toList]; exact h1
        rw [this]
        rfl
      · cases h
    · cases h
/-- One operation of a region. -/
theorem opsK_cons {E : Env} {cp : CallP} {inl : CallK} {ops : List Oper} {o : Oper} {r : List Oper} {K : KN} (h : opsK E cp inl ops (o :: r) t H K = some out) :
    (wantedT ops t o = some true ∧ stepK E cp inl t H o (fun t H => opsK E cp inl ops r t H K) = some out) ∨
    (wantedT ops t o = some false ∧ opsK E cp inl ops r (putI t o.dst (.p (.v Go.undef))) H K = some out) := by
  rw [opsK] at h
  unfold wantedT
  split at h
  · rename_i hg; rw [hg]; exact .inl ⟨rfl, h⟩
  · rename_i j want hg
    rw [hg]
    simp only
    split at h
    · rename_i d hd
      rw [hd]
      simp only
      split at h
      · rename_i b hb
        rw [hb]
        simp only
        have hset : t.set d (.p (.v (.bool b))) = t := set_self (getD_get hb (by simp))
        cases want with
        | true =>
          simp only at h
          cases b with
          | true => rw [hset] at h; exact .inl ⟨rfl, h⟩
          | false => rw [hset] at h; exact .inr ⟨rfl, h⟩
        | false =>
          simp only at h
          cases b with
          | true => rw [hset] at h; exact .inr ⟨rfl, h⟩
          | false => rw [hset] at h; exact .inl ⟨rfl, h⟩
      · rename_i hb
        rw [hb]
        exact .inr ⟨rfl, h⟩
      · cases h
    · cases h
theorem At.skip {a : Act} {n : Nat} (hat : At n S0 L0 w0 ds S L t H a w) (dst : Option Tmp) : At n S0 L0 w0 ds S L (putI t dst (.p (.v Go.undef))) H (a.put dst Go.undef) w :=
  ⟨hat.ext, put_rel hat.tmps dst rfl, by rw [put_defers', hat.defers]⟩
/-- A region whose order is the text's. -/
theorem opsK_list {E : Env} {cp : CallP} {inl : CallK} {T : Tab} (hg : Good T S0 L0 w0) (hcp : CpOK E.P T cp) (hinl : InlOK E.P T inl) {ops : Array Oper} {K : KN} {Q : Exit → Act → World → Prop} {n : Nat}
    (hQ : ∀ S' L' t' H' a' w', At n S0 L0 w0 ds S' L' t' H' a' w' → K t' H' = some out → Q .normal a' w') :
    ∀ (r : List Oper) (S : Mem) (L : Locs) (t : List IV) (H : Hp) (a : Act) (w : World), opsK E cp inl ops.toList r t H K = some out → At n S0 L0 w0 ds S L t H a w → wpList E.P ops Q r a w := by
  intro r
  induction r with
  | nil => intro S L t H a w h hat; exact hQ _ _ _ _ _ _ hat h
  | cons o r ih =>
    intro S L t H a w h hat
    rcases opsK_cons h with ⟨h1, h2⟩ | ⟨h1, h2⟩
    · rw [wpList, if_pos (wantedT_sound h1 hat.tmps)]
      exact .inl (stepK_sound hcp hinl h2 hg hat.ext.len hat fun S' L' t' H' a' w' hat' hk => ih _ _ _ _ _ _ hk hat')
    · rw [wpList, if_neg (by rw [wantedT_sound h1 hat.tmps]; simp)]
      exact ih _ _ _ _ _ _ h2 (hat.skip o.dst)

/-! ### Quiet operations -/
/-- What a quiet operation yields. -/
def qres (E : Env) (cp : CallP) (inl : CallK) (t : List IV) (H : Hp) (o : Oper) : R := match o.op with
  | .call { callee := .value g, args, argTypes } => match calleeOf t { callee := .value g, args, argTypes } with
    | some (f, xs) => callI E cp inl f xs H fun d r H' => bif d then none else some (r, H')
    | none => none
  | _ => opK E.P t H o fun r kl H' => match kl with | none => some (r, H') | some _ => none
theorem elimT_factor {cs : List CK} {xs : List PV} {f : List PV → R} (h : elimT cs xs (curryK cs f) = some out) : ∃ ys, f ys = some out ∧ ∀ g : List PV → R, elimT cs xs (curryK cs g) = g ys := by
  induction cs generalizing xs f with
  | nil =>
    cases xs with
    | nil => exact ⟨[], h, fun g => rfl⟩
    | cons x xs => simp only [elimT] at h; cases h
  | cons c cs ih =>
    cases xs with
    | nil => cases c <;> simp only [elimT] at h <;> cases h
    | cons x xs =>
      cases c with
      | int k =>
        simp only [elimT, curryK] at h
        split at h
        · rename_i n hn
          obtain ⟨ys, h1, h2⟩ := ih h
          exact ⟨_, h1, fun g => by simp only [elimT, curryK, hn]; exact h2 _⟩
        · cases h
      | bool =>
        simp only [elimT, curryK] at h
        split at h
        · rename_i n hn
          obtain ⟨ys, h1, h2⟩ := ih h
          exact ⟨_, h1, fun g => by simp only [elimT, curryK, hn]; exact h2 _⟩
        · cases h
      | str =>
        simp only [elimT, curryK] at h
        split at h
        · rename_i n hn
          obtain ⟨ys, h1, h2⟩ := ih h
          exact ⟨_, h1, fun g => by simp only [elimT, curryK, hn]; exact h2 _⟩
        · cases h
      | sl =>
        simp only [elimT, curryK] at h
        split at h
        · rename_i n c hn
          obtain ⟨ys, h1, h2⟩ := ih h
          exact ⟨_, h1, fun g => by simp only [elimT, curryK, hn]; exact h2 _⟩
        · cases h
      | any =>
        simp only [elimT, curryK] at h
        obtain ⟨ys, h1, h2⟩ := ih h
        exact ⟨_, h1, fun g => by simp only [elimT, curryK]; exact h2 _⟩
/-- A continuation that is used once at most. -/
def Once {α : Type} (F : (α → R) → R) : Prop := ∀ (K : α → R) (out : IV × Hp), F K = some out → ∃ y, K y = some out ∧ ∀ K', F K' = K' y
theorem Once.chk {α : Type} {F : (α → R) → R} (h : Once F) (b : Bool) : Once fun K => chk b (F K) := fun K out hk => by
  cases b with
  | false => cases hk
  | true => exact h K out hk
theorem Once.here {α : Type} (y : α) : Once fun K : α → R => K y := fun _ _ hk => ⟨y, hk, fun _ => rfl⟩
theorem Once.non {α : Type} : Once fun _ : α → R => (none : R) := fun _ _ hk => by cases hk
theorem Once.elim {α : Type} (cs : List CK) (xs : List PV) (g : List PV → (α → R) → R) (hg : ∀ ys, Once (g ys)) : Once fun K => elimT cs xs (curryK cs fun ys => g ys K) := fun K out hk => by
  obtain ⟨ys, h1, h2⟩ := elimT_factor hk
  obtain ⟨y, h3, h4⟩ := hg ys K out h1
  exact ⟨y, h3, fun K' => (h2 fun ys => g ys K').trans (h4 K')⟩
theorem once_loadK (P : Program) (ty : TypeId) (l : List PV) : Once (loadK P ty l) := by
  unfold loadK
  split
  · split
    · split
      · exact Once.elim _ _ (fun xs (K : IV → R) => K (.p (mkAggP xs))) fun ys => Once.here _
      · exact Once.non
    · exact Once.non
  · split
    · refine Once.elim _ _ (fun xs (K : IV → R) => match xs with | [x] => K (.p x) | _ => none) fun ys => ?_
      split
      · exact Once.here _
      · exact Once.non
    · exact Once.non
theorem once_loadG (P : Program) (ty : TypeId) (l : List IV) : Once (loadG P ty l) := by
  unfold loadG
  split
  · split
    · split
      · exact Once.here _
      · exact Once.non
    · exact Once.non
  · split
    · exact Once.here _
    · exact Once.non
theorem once_loadB (P : Program) (H : Hp) (ty : TypeId) (b off : Nat) : Once (loadB P H ty b off) := by
  unfold loadB
  split
  · exact once_loadK _ _ _
  · exact once_loadG _ _ _
  · exact Once.non
theorem once_binI (op : BinOp) (k : IntKind) (a b : Int) : Once (binI op k a b) := by
  unfold binI
  split <;> first | exact Once.here _ | exact Once.non | exact (Once.here _).chk _
theorem once_shI (op : BinOp) (k : IntKind) (a b : Int) : Once (shI op k a b) := by
  unfold shI
  split <;> first | exact Once.non | exact (Once.here _).chk _
theorem once_binK (P : Program) (op : BinOp) (ty : TypeId) (x y : Value) : Once (binK P op ty x y) := by
  unfold binK
  split
  · split
    · exact once_shI _ _ _ _
    · split
      · exact once_binI _ _ _ _
      · exact Once.non
  · split <;> first | exact Once.here _ | exact Once.non | exact (Once.here _).chk _
  · split <;> first | exact Once.here _ | exact Once.non
  · split
    · split <;> first | exact Once.here _ | exact Once.non
    · exact Once.non
  · exact Once.non
theorem once_sliceK (P : Program) (H : Hp) (ty : TypeId) (x : IV) (lo hi : Option Operand) (t : List IV) : Once (sliceK P H ty x lo hi t) := by
  unfold sliceK
  split
  · split
    · split
      · exact (Once.here _).chk _
      · exact Once.non
    · exact Once.non
  · split
    · exact (Once.here _).chk _
    · exact Once.non
  · split
    · split
      · exact (Once.here _).chk _
      · exact Once.non
    · exact Once.non
  · split
    · split
      · exact (Once.here _).chk _
      · exact Once.non
    · exact Once.non
  · split
    · split
      · exact (Once.here _).chk _
      · exact Once.non
    · exact Once.non
  · exact Once.non
theorem once_indexAddrK (P : Program) (ty : TypeId) (x i : IV) : Once (indexAddrK P ty x i) := by
  unfold indexAddrK
  split
  · split
    · split
      · exact (Once.here _).chk _
      · exact Once.non
    · split
      · exact (Once.here _).chk _
      · exact Once.non
    · split
      · exact (Once.here _).chk _
      · exact Once.non
    · split
      · exact (Once.here _).chk _
      · exact Once.non
    · split
      · exact (Once.here _).chk _
      · exact Once.non
    · exact Once.non
  · exact Once.non
/-- A continuation that is used once at most, over the blocks as they stand. -/
def OnceQ (H : Hp) (F : (IV → Option Nat → Hp → R) → R) : Prop := ∀ (K : IV → Option Nat → Hp → R) (out : IV × Hp), F K = some out → ∃ r, K r none H = some out ∧ ∀ K', F K' = K' r none H
theorem OnceQ.of {F : (IV → R) → R} (h : Once F) : OnceQ H fun K => F fun y => K y none H := fun K out hk => by
  obtain ⟨y, h1, h2⟩ := h _ _ hk
  exact ⟨y, h1, fun K' => h2 _⟩
theorem OnceQ.non : OnceQ H fun _ => (none : R) := fun _ _ hk => by cases hk
theorem OnceQ.here (r : IV) : OnceQ H fun K => K r none H := fun _ _ hk => ⟨r, hk, fun _ => rfl⟩
theorem OnceQ.ofV {F : (Value → R) → R} (h : Once F) : OnceQ H fun K => F fun r => K (.p (.v r)) none H := fun K out hk => by
  obtain ⟨y, h1, h2⟩ := h _ _ hk
  exact ⟨_, h1, fun K' => h2 _⟩
theorem onceQ_convert {P : Program} {src dst : TypeId} (hd : isSliceT P dst = false) (x : IV) : OnceQ H (convertK P H src dst x) := by
  unfold convertK
  split
  · split
    · exact OnceQ.here _
    · exact OnceQ.here _
    · exact OnceQ.non
  · split
    · split
      · exact OnceQ.here _
      · split
        · rename_i h; rw [hd] at h; cases h.1
        · exact OnceQ.non
    · exact OnceQ.non
  · split
    · split
      · split
        · split
          · exact OnceQ.here _
          · exact OnceQ.non
        · exact OnceQ.non
      · exact OnceQ.non
    · exact OnceQ.non
theorem onceQ_op {E : Env} {o : Oper} (hq : isQuiet E o = true) (hc : isCallV o.op = false) : OnceQ H (opK E.P t H o) := by
  obtain ⟨dst, op, type, pos, after, guard⟩ := o
  cases op <;> simp only [isQuiet] at hq <;> try (cases hq; done)
  case move x => exact OnceQ.here _
  case assign x => exact OnceQ.here _
  case pick c x y =>
    unfold opK
    simp only
    split
    · exact OnceQ.here _
    · exact OnceQ.here _
    · exact OnceQ.non
  case build ty ps =>
    unfold opK
    simp only
    split
    · split
      · exact OnceQ.here _
      · exact OnceQ.non
    · exact OnceQ.non
  case load ty x =>
    unfold opK
    simp only
    split
    · exact OnceQ.of (once_loadK _ _ _)
    · exact OnceQ.of (once_loadB _ _ _ _ _)
    · exact OnceQ.of (once_loadB _ _ _ _ _)
    · exact OnceQ.non
  case nilCheck x =>
    unfold opK
    simp only
    split
    · exact OnceQ.here _
    · exact OnceQ.here _
    · exact OnceQ.here _
    · exact OnceQ.non
  case binOp bop ty x y yt =>
    unfold opK
    simp only
    split
    · exact OnceQ.ofV (once_binK _ _ _ _ _)
    · exact OnceQ.non
  case unOp uop ty x =>
    unfold opK
    simp only
    split
    · exact OnceQ.here _
    · exact OnceQ.here _
    · exact OnceQ.ofV (once_binI _ _ _ _)
    · exact OnceQ.non
  case convert src d x => exact onceQ_convert (by simpa using hq) _
  case makeFunc f first cap =>
    unfold opK
    simp only
    cases first.toList.isEmpty && stabL (evL t cap.toList) with
    | true => exact OnceQ.here _
    | false => exact OnceQ.non
  case slice ty x lo hi mx =>
    cases mx with
    | some m => exact OnceQ.non
    | none => exact OnceQ.of (once_sliceK _ _ _ _ _ _ _)
  case fieldAddr s x f =>
    unfold opK
    simp only
    split
    · exact OnceQ.here _
    · exact OnceQ.here _
    · exact OnceQ.here _
    · exact OnceQ.non
  case field s x f =>
    unfold opK
    simp only
    split
    · split
      · split
        · exact OnceQ.of (once_loadK _ _ _)
        · exact OnceQ.non
      · exact OnceQ.non
    · exact OnceQ.non
  case indexAddr ty x i => exact OnceQ.of (once_indexAddrK _ _ _ _)
  case index ty x i =>
    unfold opK
    simp only
    split
    · split
      · intro K out hk
        obtain ⟨h1, h2⟩ := chk_some hk
        refine ⟨_, h2, fun K' => ?_⟩
        rw [h1]; rfl
      · exact OnceQ.non
    · exact OnceQ.non
  case extract x i =>
    unfold opK
    simp only
    split
    · split
      · split
        · exact OnceQ.here _
        · exact OnceQ.non
      · split
        · exact OnceQ.here _
        · exact OnceQ.non
      · exact OnceQ.non
    · split
      · exact OnceQ.here _
      · exact OnceQ.non
    · exact OnceQ.non
  case call c =>
    obtain ⟨callee, args, argTypes⟩ := c
    cases callee with
    | value f => cases hc
    | invoke r m => cases hq
    | builtin b =>
      cases b <;> simp only at hq <;> try (cases hq; done)
      case len =>
        unfold opK
        simp only
        split
        · split
          · split
            · exact OnceQ.here _
            · exact OnceQ.non
          · split
            · split
              · exact OnceQ.here _
              · exact OnceQ.non
            · exact OnceQ.non
        · exact OnceQ.non
      case min =>
        unfold opK
        simp only
        split
        · split
          · exact OnceQ.here _
          · exact OnceQ.non
        · exact OnceQ.non
      case max =>
        unfold opK
        simp only
        split
        · split
          · exact OnceQ.here _
          · exact OnceQ.non
        · exact OnceQ.non
end
end Go.Proofs.YtgldfdpdjlohiaaDoor.Iv
