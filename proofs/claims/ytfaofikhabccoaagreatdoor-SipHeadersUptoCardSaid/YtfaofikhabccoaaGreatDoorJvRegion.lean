/- Regions of operations: the ideal machine's one order stands for every order; conditions: none. -/
import Derived.Test.YtfaofikhabccoaaGreatDoorJvStep
import Derived.Still
namespace Go.Proofs.YtfaofikhabccoaaGreatDoor.Jv
open Go Go.RowKit
set_option linter.unusedVariables false
set_option linter.unusedSimpArgs false
section
variable {ρ : Type} {S : Mem} {L : Locs} {H : Hp} {w : World} {t : List IV} {vs : List Value} {out : ρ}
variable {n0 : Nat} {S0 : Mem} {L0 : Locs} {w0 : World} {ds : List Deferred × Nat}

theorem set_self {α : Type} {l : List α} {d : Nat} {v : α} (h : l[d]? = some v) : l.set d v = l := by
  apply List.ext_getElem?
  intro i
  rw [List.getElem?_set]
  split
  · rename_i e
    subst e
    split
    · exact h.symm
    · rename_i h1
      rw [List.getElem?_eq_none (by omega)] at h
      cases h
  · rfl
theorem getD_get {t : List IV} {d : Nat} {x : IV} (h : t.getD d .undef = x) (hx : x ≠ .undef) : t[d]? = some x := by
  rw [List.getD_eq_getElem?_getD] at h
  cases he : t[d]? with
  | none => rw [he] at h; exact absurd h.symm hx
  | some y => rw [he] at h; simp at h; rw [h]
/-- Is an operation to be carried out? -/
def wantedT (ops : List Oper) (t : List IV) (o : Oper) : Option Bool := match o.guard with
  | none => some true
  | some (j, want) => match dstOf ops j with
    | some d => match t.getD d .undef with
      | .p (.v (.bool b)) => some (b == want)
      | .p (.v (.tuple ⟨[]⟩)) => some false
      | _ => none
    | none => none
theorem wantedT_sound {ops : Array Oper} {o : Oper} {a : Act} {b : Bool} (h : wantedT ops.toList t o = some b) (ht : RIs S L t a.tmps.toList) : Region.wanted o (yielded ops a.tmps) = b := by
  unfold wantedT at h
  unfold Region.wanted
  split at h
  · rename_i hg; rw [hg]; cases h; rfl
  · rename_i j want hg
    rw [hg]
    simp only
    split at h
    · rename_i d hd
      have hd' : (ops[j]?).bind (·.dst) = some d := by
        unfold dstOf at hd
        rw [Array.getElem?_toList] at hd
        cases ho : ops[j]? with
        | none => rw [ho] at hd; cases hd
        | some o' => rw [ho] at hd; exact hd
      unfold yielded
      rw [hd']
      simp only [Option.bind_some]
      split at h
      · rename_i c hc
        cases h
        obtain ⟨v, h1, h2⟩ := ht.get (getD_get hc (by simp))
        simp only [RI, RP] at h2
        subst h2
        have : a.tmps[d]? = some (.bool c) := by rw [← Array.getElem?_toList]; exact h1
        rw [this]
        cases c <;> cases want <;> rfl
      · rename_i hc
        cases h
        obtain ⟨v, h1, h2⟩ := ht.get (getD_get hc (by simp))
        simp only [RI, RP] at h2
        subst h2
        have : a.tmps[d]? = some (.tuple ⟨[]⟩) := by rw [← Array.getElem?_toList]; exact h1
        rw [this]
        rfl
      · cases h
    · cases h
/-- One operation of a region. -/
theorem opsK_cons {E : Env} {m : Mach} {ops : List Oper} {o : Oper} {r : List Oper} {K : KN ρ} (h : opsK E m ops (o :: r) t H K = some out) :
    (wantedT ops t o = some true ∧ stepK E m t H o (fun t H => opsK E m ops r t H K) = some out) ∨
    (wantedT ops t o = some false ∧ opsK E m ops r (putI t o.dst (.p (.v Go.undef))) H K = some out) := by
  rw [opsK] at h
  unfold wantedT
  split at h
  · rename_i hg; rw [hg]; exact .inl ⟨rfl, h⟩
  · rename_i j want hg
    rw [hg]
    simp only
    split at h
    · rename_i d hd
      rw [hd]
      simp only
      split at h
      · rename_i b hb
        rw [hb]
        simp only
        have hset : t.set d (.p (.v (.bool b))) = t := set_self (getD_get hb (by simp))
        cases want with
        | true =>
          simp only at h
          cases b with
          | true => rw [hset] at h; exact .inl ⟨rfl, h⟩
          | false => rw [hset] at h; exact .inr ⟨rfl, h⟩
        | false =>
          simp only at h
          cases b with
          | true => rw [hset] at h; exact .inr ⟨rfl, h⟩
          | false => rw [hset] at h; exact .inl ⟨rfl, h⟩
      · rename_i hb
        rw [hb]
        exact .inr ⟨rfl, h⟩
      · cases h
    · cases h
theorem At.skip {a : Act} (hat : At n0 S0 L0 w0 ds S L t H a w) (dst : Option Tmp) : At n0 S0 L0 w0 ds S L (putI t dst (.p (.v Go.undef))) H (a.put dst Go.undef) w :=
  ⟨hat.ext, put_rel hat.tmps dst rfl, by rw [put_defers', hat.defers]⟩
/-- A region whose order is the text's. -/
theorem opsK_list {E : Env} {m : Mach} {T : Tab} (hg : Good T S0 L0 w0) (hcp : CallsOK E T m) {ops : Array Oper} {K : KN ρ} {Q : Exit → Act → World → Prop}
    (hQ : ∀ S' L' t' H' a' w', At n0 S0 L0 w0 ds S' L' t' H' a' w' → K t' H' = some out → Q .normal a' w') :
    ∀ (r : List Oper) (S : Mem) (L : Locs) (t : List IV) (H : Hp) (a : Act) (w : World), opsK E m ops.toList r t H K = some out → At n0 S0 L0 w0 ds S L t H a w → wpList E.P ops Q r a w := by
  intro r
  induction r with
  | nil => intro S L t H a w h hat; exact hQ _ _ _ _ _ _ hat h
  | cons o r ih =>
    intro S L t H a w h hat
    rcases opsK_cons h with ⟨h1, h2⟩ | ⟨h1, h2⟩
    · rw [wpList, if_pos (wantedT_sound h1 hat.tmps)]
      exact .inl (stepK_sound hcp h2 hg hat fun S' L' t' H' a' w' hat' hk => ih _ _ _ _ _ _ hk hat')
    · rw [wpList, if_neg (by rw [wantedT_sound h1 hat.tmps]; simp)]
      exact ih _ _ _ _ _ _ h2 (hat.skip o.dst)

/-! ### Quiet operations -/
/-- What a quiet operation yields. -/
def qres (E : Env) (m : Mach) (t : List IV) (H : Hp) (o : Oper) : Option (IV × Hp) := match o.op with
  | .call { callee := .value g, args, argTypes } => match calleeOf t { callee := .value g, args, argTypes } with
    | some (f, xs) => if (flatSp (E.res f) || E.strict f) = true then callI E m f xs H fun r H' => some (r, H') else none
    | none => none
  | _ => opK E.P t H o fun r kl H' => match kl with | none => some (r, H') | some _ => none
/-- A continuation that is used once at most. -/
def Once {α : Type} (F : (ρ : Type) → (α → Option ρ) → Option ρ) : Prop := ∀ (ρ : Type) (K : α → Option ρ) (out : ρ), F ρ K = some out → ∃ y, K y = some out ∧ ∀ (ρ' : Type) (K' : α → Option ρ'), F ρ' K' = K' y
theorem Once.chk {α : Type} {F : (ρ : Type) → (α → Option ρ) → Option ρ} (h : Once F) (b : Bool) : Once fun ρ K => chk b (F ρ K) := fun ρ K out hk => by
  cases b with
  | false => cases hk
  | true => exact h ρ K out hk
theorem Once.here {α : Type} (y : α) : Once fun (ρ : Type) (K : α → Option ρ) => K y := fun _ _ _ hk => ⟨y, hk, fun _ _ => rfl⟩
theorem Once.non {α : Type} : Once fun (ρ : Type) (_ : α → Option ρ) => (none : Option ρ) := fun _ _ _ hk => by cases hk
theorem Once.get {α β : Type} (l : List β) (j : Nat) {F : β → (ρ : Type) → (α → Option ρ) → Option ρ} (h : ∀ x, Once (F x)) : Once fun ρ K => getK l j fun x => F x ρ K := fun ρ K out hk => by
  obtain ⟨x, h1, h2⟩ := getK_some hk
  obtain ⟨y, h3, h4⟩ := h x ρ K out h2
  refine ⟨y, h3, fun ρ' K' => ?_⟩
  show getK l j (fun x => F x ρ' K') = K' y
  unfold getK
  rw [h1]
  exact h4 ρ' K'
theorem Once.getO {α β : Type} (x : Option β) {F : β → (ρ : Type) → (α → Option ρ) → Option ρ} (h : ∀ x, Once (F x)) : Once fun ρ K => Jv.getO x fun x => F x ρ K := fun ρ K out hk => by
  cases x with
  | none => cases hk
  | some x =>
    obtain ⟨y, h3, h4⟩ := h x ρ K out hk
    exact ⟨y, h3, fun ρ' K' => h4 ρ' K'⟩
theorem once_loadP (P : Program) (ty : TypeId) (l : List PV) : Once fun ρ (K : IV → Option ρ) => loadP P ty l K := by
  unfold loadP
  split
  · split
    · split
      · exact Once.here _
      · exact Once.non
    · exact Once.non
  · split
    · exact Once.here _
    · exact Once.non
theorem once_loadG (P : Program) (ty : TypeId) (l : List IV) : Once fun ρ (K : IV → Option ρ) => loadG P ty l K := by
  unfold loadG
  split
  · split
    · split
      · exact Once.here _
      · exact Once.non
    · exact Once.non
  · split
    · exact Once.here _
    · exact Once.non
theorem once_loadB (P : Program) (H : Hp) (ty : TypeId) (b off : Nat) : Once fun ρ (K : IV → Option ρ) => loadB P H ty b off K := by
  unfold loadB
  split
  · exact once_loadP _ _ _
  · exact once_loadG _ _ _
  · exact Once.non
theorem once_loadE (P : Program) (H : Hp) (ty : TypeId) (b sz j off : Nat) : Once fun ρ (K : IV → Option ρ) => loadE P H ty b sz j off K := by
  unfold loadE
  split
  · split
    · exact Once.get _ _ fun x => once_loadP _ _ _
    · exact Once.non
  · exact Once.non
theorem once_binI (op : BinOp) (k : IntKind) (a b : Int) : Once fun ρ (K : Value → Option ρ) => binI op k a b K := by
  unfold binI
  split <;> first | exact Once.here _ | exact Once.non | exact (Once.here _).chk _
theorem once_shI (op : BinOp) (k : IntKind) (a b : Int) : Once fun ρ (K : Value → Option ρ) => shI op k a b K := by
  unfold shI
  split <;> first | exact Once.non | exact (Once.here _).chk _
theorem once_binK (P : Program) (op : BinOp) (ty : TypeId) (x y : Value) : Once fun ρ (K : Value → Option ρ) => binK P op ty x y K := by
  unfold binK
  split
  · split
    · exact once_shI _ _ _ _
    · split
      · exact once_binI _ _ _ _
      · exact Once.non
  · split <;> first | exact Once.here _ | exact Once.non | exact (Once.here _).chk _
  · split <;> first | exact Once.here _ | exact Once.non
  · split <;> first | exact Once.here _ | exact Once.non
  · split
    · split <;> first | exact Once.here _ | exact Once.non
    · exact Once.non
  · exact Once.non
theorem Once.bnd {α : Type} {F : (ρ : Type) → (α → Option ρ) → Option ρ} (h : Once F) (lo hi : Option Operand) (a b n : Int) : Once fun ρ K => bnd lo hi a b n (F ρ K) := by
  unfold Jv.bnd
  split
  · exact h
  · exact (h.chk _).chk _
  · exact (h.chk _).chk _
  · exact ((h.chk _).chk _).chk _
theorem once_sliceK (P : Program) (H : Hp) (ty : TypeId) (x : IV) (lo hi : Option Operand) (t : List IV) : Once fun ρ (K : IV → Option ρ) => sliceK P H ty x lo hi t K := by
  unfold sliceK
  split
  · split
    · split
      · exact (Once.here _).bnd _ _ _ _ _
      · exact Once.non
    · exact Once.non
  · split
    · split
      · exact (Once.here _).bnd _ _ _ _ _
      · exact Once.non
    · exact Once.non
  · split
    · split
      · split
        · exact (Once.here _).bnd _ _ _ _ _
        · exact Once.non
      · exact Once.non
    · exact Once.non
  · split
    · split
      · exact (Once.here _).bnd _ _ _ _ _
      · exact Once.non
    · exact Once.non
  · split
    · split
      · split
        · exact (Once.here _).bnd _ _ _ _ _
        · exact Once.non
      · exact Once.non
    · exact Once.non
  · exact Once.non
theorem once_indexAddrK (P : Program) (H : Hp) (ty : TypeId) (x i : IV) : Once fun ρ (K : IV → Option ρ) => indexAddrK P H ty x i K := by
  unfold indexAddrK
  split
  · split
    · split
      · exact (Once.get _ _ fun x => Once.here _).chk _
      · exact Once.non
    · split
      · split
        · exact ((Once.here _).chk _).chk _
        · exact Once.non
      · exact Once.non
    · split
      · exact ((Once.here _).chk _).chk _
      · exact Once.non
    · split
      · exact ((Once.here _).chk _).chk _
      · exact Once.non
    · split
      · exact ((Once.here _).chk _).chk _
      · exact Once.non
    · exact Once.non
  · exact Once.non
theorem once_srcT (H : Hp) (q : Ty) (x : IV) : Once fun ρ (K : List (T q) → Option ρ) => srcT H q x K := by
  unfold srcT
  split
  · split
    · exact Once.here _
    · exact Once.non
  · split
    · split
      · split
        · exact Once.here _
        · exact Once.non
      · exact Once.non
    · exact Once.non
  · split
    · split
      · split
        · exact Once.here _
        · exact Once.non
      · exact Once.non
    · exact Once.non
  · exact Once.non
/-- A continuation that is used once at most, over the blocks as they stand. -/
def OnceQ (H : Hp) (F : (ρ : Type) → (IV → Option Nat → Hp → Option ρ) → Option ρ) : Prop := ∀ (ρ : Type) (K : IV → Option Nat → Hp → Option ρ) (out : ρ), F ρ K = some out → ∃ r, K r none H = some out ∧ ∀ (ρ' : Type) (K' : IV → Option Nat → Hp → Option ρ'), F ρ' K' = K' r none H
theorem OnceQ.of {F : (ρ : Type) → (IV → Option ρ) → Option ρ} (h : Once F) : OnceQ H fun ρ K => F ρ fun y => K y none H := fun ρ K out hk => by
  obtain ⟨y, h1, h2⟩ := h _ _ _ hk
  exact ⟨y, h1, fun _ K' => h2 _ _⟩
theorem OnceQ.non : OnceQ H fun ρ _ => (none : Option ρ) := fun _ _ _ hk => by cases hk
theorem OnceQ.here (r : IV) : OnceQ H fun _ K => K r none H := fun _ _ _ hk => ⟨r, hk, fun _ _ => rfl⟩
theorem OnceQ.ofV {F : (ρ : Type) → (Value → Option ρ) → Option ρ} (h : Once F) : OnceQ H fun ρ K => F ρ fun r => K (.p (.v r)) none H := fun ρ K out hk => by
  obtain ⟨y, h1, h2⟩ := h _ _ _ hk
  exact ⟨_, h1, fun _ K' => h2 _ _⟩
theorem OnceQ.ofG {α : Type} {F : (ρ : Type) → (α → Option ρ) → Option ρ} (g : α → IV) (h : Once F) : OnceQ H fun ρ K => F ρ fun r => K (g r) none H := fun ρ K out hk => by
  obtain ⟨y, h1, h2⟩ := h _ _ _ hk
  exact ⟨_, h1, fun _ K' => h2 _ _⟩
theorem onceQ_convert {P : Program} {src dst : TypeId} (hd : isSliceT P dst = false) (x : IV) : OnceQ H fun ρ K => convertK (ρ := ρ) P H src dst x K := by
  unfold convertK
  split
  · split
    · exact OnceQ.here _
    · exact OnceQ.here _
    · exact OnceQ.non
  · split
    · split
      · exact OnceQ.here _
      · split
        · rename_i h; rw [hd] at h; cases h.1
        · exact OnceQ.non
    · exact OnceQ.non
  · split
    · exact OnceQ.ofG _ (once_srcT H .u8 _)
    · unfold sameK
      split
      · split
        · rename_i h; rw [hd] at h; cases h.2.1
        · exact OnceQ.non
      · exact OnceQ.non
theorem onceQ_op {E : Env} {o : Oper} (hq : isQuiet E o = true) (hc : isCallV o.op = false) : OnceQ H fun ρ K => opK (ρ := ρ) E.P t H o K := by
  obtain ⟨dst, op, type, pos, after, guard⟩ := o
  cases op <;> simp only [isQuiet] at hq <;> try (cases hq; done)
  case move x => exact OnceQ.here _
  case assign x => exact OnceQ.here _
  case pick c x y =>
    unfold opK
    simp only
    split
    · exact OnceQ.here _
    · exact OnceQ.here _
    · exact OnceQ.non
  case build ty ps =>
    unfold opK
    simp only
    split
    · split
      · exact OnceQ.here _
      · exact OnceQ.non
    · exact OnceQ.non
  case load ty x =>
    unfold opK
    simp only
    split
    · exact OnceQ.of (once_loadP _ _ _)
    · exact OnceQ.of (Once.getO _ fun _ => once_loadP _ _ _)
    · exact OnceQ.of (once_loadB _ _ _ _ _)
    · exact OnceQ.of (once_loadE _ _ _ _ _ _ _)
    · exact OnceQ.non
  case nilCheck x =>
    unfold opK
    simp only
    split
    · exact OnceQ.here _
    · exact OnceQ.here _
    · exact OnceQ.here _
    · exact OnceQ.of (Once.getO (F := fun y ρ (K : IV → Option ρ) => K (.p (.rop (cellsT _ y)))) _ fun _ => Once.here _)
    · exact OnceQ.non
  case binOp bop ty x y yt =>
    unfold opK
    simp only
    split
    · exact OnceQ.ofV (once_binK _ _ _ _ _)
    · split
      · exact OnceQ.here _
      · exact OnceQ.here _
      · exact OnceQ.non
    · split
      · exact OnceQ.here _
      · exact OnceQ.here _
      · exact OnceQ.non
    · exact OnceQ.non
  case unOp uop ty x =>
    unfold opK
    simp only
    split
    · exact OnceQ.here _
    · exact OnceQ.here _
    · exact OnceQ.ofV (once_binI _ _ _ _)
    · exact OnceQ.non
  case convert src d x => exact onceQ_convert (by simpa using hq) _
  case makeFunc f first cap =>
    unfold opK
    simp only
    cases first.toList.isEmpty && stabL (evL t cap.toList) with
    | true => exact OnceQ.here _
    | false => exact OnceQ.non
  case slice ty x lo hi mx =>
    cases mx with
    | some m => exact OnceQ.non
    | none => exact OnceQ.of (once_sliceK _ _ _ _ _ _ _)
  case fieldAddr s x f =>
    unfold opK
    simp only
    split
    · exact OnceQ.here _
    · exact OnceQ.here _
    · exact OnceQ.here _
    · exact OnceQ.non
  case field s x f =>
    unfold opK
    simp only
    split
    · split
      · split
        · exact OnceQ.of (once_loadG _ _ _)
        · exact OnceQ.non
      · exact OnceQ.non
    · exact OnceQ.non
  case indexAddr ty x i => exact OnceQ.of (once_indexAddrK _ _ _ _ _)
  case index ty x i =>
    unfold opK
    simp only
    split
    · split
      · intro ρ K out hk
        obtain ⟨h1, h2⟩ := chk_some hk
        obtain ⟨h3, h4⟩ := chk_some h2
        refine ⟨_, h4, fun _ K' => ?_⟩
        rw [h1, h3]; rfl
      · exact OnceQ.non
    · exact OnceQ.non
  case extract x i =>
    unfold opK
    simp only
    split
    · split
      · split
        · exact OnceQ.here _
        · exact OnceQ.non
      · split
        · exact OnceQ.here _
        · exact OnceQ.non
      · exact OnceQ.non
    · split
      · exact OnceQ.here _
      · exact OnceQ.non
    · exact OnceQ.non
  case call c =>
    obtain ⟨callee, args, argTypes⟩ := c
    cases callee with
    | value f => cases hc
    | invoke r m => cases hq
    | builtin b =>
      cases b <;> simp only at hq <;> try (cases hq; done)
      case len =>
        unfold opK
        simp only
        split
        · split
          · split
            · exact OnceQ.here _
            · exact OnceQ.non
          · split
            · split
              · exact OnceQ.here _
              · exact OnceQ.non
            · exact OnceQ.non
        · exact OnceQ.non
      case min =>
        unfold opK
        simp only
        split
        · split
          · exact OnceQ.here _
          · exact OnceQ.non
        · exact OnceQ.non
      case max =>
        unfold opK
        simp only
        split
        · split
          · exact OnceQ.here _
          · exact OnceQ.non
        · exact OnceQ.non
end
end Go.Proofs.YtfaofikhabccoaaGreatDoor.Jv
