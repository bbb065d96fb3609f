/- Calls and operations of the ideal machine are the model's; conditions: none. -/
import Derived.Test.YtfaofikhabccoaaGreatDoorJvCall
namespace Go.Proofs.YtfaofikhabccoaaGreatDoor.Jv
open Go Go.RowKit
set_option linter.unusedVariables false
set_option linter.unusedSimpArgs false
section
variable {ρ : Type} {S : Mem} {L : Locs} {H : Hp} {w : World} {t : List IV} {vs : List Value} {out : ρ}

/-! ### Rows that turn no more -/
def cutL (L : Locs) (bs : List Nat) : Locs := fun i => if bs.contains i then none else L i
theorem cutL_some {bs : List Nat} {i : Nat} {lo : Lo} (h : cutL L bs i = some lo) : bs.contains i = false ∧ L i = some lo := by
  unfold cutL at h
  cases hb : bs.contains i with
  | true => rw [hb] at h; cases h
  | false => rw [hb] at h; exact ⟨rfl, h⟩
theorem cutL_box {bs : List Nat} (hbs : ∀ b, bs.contains b = true → ∀ lo, L b = some lo → lo.box = false) {i : Nat} {lo : Lo} (h : L i = some lo) (hb : lo.box = true) : cutL L bs i = some lo := by
  unfold cutL
  cases hc : bs.contains i with
  | false => exact h
  | true => have := hbs i hc lo h; rw [this] at hb; cases hb
theorem cutL_of {bs : List Nat} {i : Nat} {lo : Lo} (hb : bs.contains i = false) (h : L i = some lo) : cutL L bs i = some lo := by unfold cutL; rw [hb]; exact h
theorem deadH_get (bs : List Nat) : ∀ (H : Hp) (n i : Nat), (deadH bs n H)[i]? = (H[i]?).map fun k => if bs.contains (n + i) then .dead else k
  | [], n, i => by simp [deadH]
  | x :: H, n, 0 => by simp [deadH]
  | x :: H, n, i + 1 => by
    simp only [deadH, List.getElem?_cons_succ, deadH_get bs H]
    rw [show n + 1 + i = n + (i + 1) from by omega]
theorem deadH_len (bs : List Nat) : ∀ (H : Hp) (n : Nat), (deadH bs n H).length = H.length
  | [], n => rfl
  | x :: H, n => by simp [deadH, deadH_len bs H]
theorem frzV_rel (hi : Inv S L H w) {bs : List Nat} (hbs : ∀ b, bs.contains b = true → ∀ lo, L b = some lo → lo.box = false) (x : IV) (v : Value) (h : RI S L x v) : RI (Sf S L w bs) (cutL L bs) (frzV H bs x) v := by
  have hS : ∀ b o v, S b o v → Sf S L w bs b o v := fun b o v h => Sf_sub bs b o v h
  have hbox : ∀ i lo, L i = some lo → lo.box = true → cutL L bs i = some lo := fun i lo h1 h2 => by
    cases hb : bs.contains i with
    | true => rw [hbs i hb lo h1] at h2; cases h2
    | false => exact cutL_of hb h1
  cases x with
  | p x => exact RP.mono hS h
  | row b sz =>
    simp only [frzV]
    split
    · rename_i hb
      split
      · rename_i q l hq
        split
        · rename_i hs; exact row_cells hi h hq hs (by simpa using hb)
        · trivial
      · trivial
    · rename_i hb
      obtain ⟨lo, e1, e2⟩ := h
      exact ⟨lo, cutL_of (by simpa using hb) e1, e2⟩
  | rw b sz a n =>
    simp only [frzV]
    split
    · rename_i hb
      split
      · rename_i q l hq
        split
        · rename_i hs; exact rw_cells hi h hq hs (by simpa using hb)
        · trivial
      · trivial
    · rename_i hb
      obtain ⟨lo, e1, e2⟩ := h
      exact ⟨lo, cutL_of (by simpa using hb) e1, e2⟩
  | eptr b sz j off =>
    simp only [frzV]
    split
    · trivial
    · rename_i hb
      obtain ⟨lo, e1, e2⟩ := h
      exact ⟨lo, cutL_of (by simpa using hb) e1, e2⟩
  | ptr b off => obtain ⟨lo, e1, e2, e3⟩ := h; exact ⟨lo, hbox _ _ e1 e2, e2, e3⟩
  | it b => obtain ⟨lo, e1, e2, e3⟩ := h; exact ⟨lo, hbox _ _ e1 e2, e2, e3⟩
  | fn f c => obtain ⟨h1, cs, rfl, h2⟩ := h; exact ⟨h1, cs, rfl, RIs_stab hS hbox h1 h2⟩
  | _ => trivial
theorem frz_inv (hi : Inv S L H w) {bs : List Nat} (hbs : ∀ b, bs.contains b = true → ∀ lo, L b = some lo → lo.box = false) : Inv (Sf S L w bs) (cutL L bs) (deadH bs 0 (mapH (frzV H bs) H)) w := by
  refine ⟨?_, ?_, ?_, ?_, ?_⟩
  · intro b k hk
    rw [deadH_get, getElem?_mapH] at hk
    cases hq : H[b]? with
    | none => rw [hq] at hk; cases hk
    | some q =>
      rw [hq] at hk
      simp only [Option.map_some, Option.some.injEq, Nat.zero_add] at hk
      cases hb : bs.contains b with
      | true => rw [hb] at hk; exact .inl (by simpa using hk.symm)
      | false =>
        rw [hb] at hk
        simp only [Bool.false_eq_true, if_false] at hk
        subst hk
        rcases hi.blk b q hq with rfl | ⟨lo, h1, h2⟩
        · exact .inl rfl
        · exact .inr ⟨lo, cutL_of hb h1, h2.mapped (fun _ => rfl) (fun _ => rfl) (frzV_rel hi hbs)⟩
  · intro b hb
    rw [deadH_len, length_mapH] at hb
    unfold cutL
    rw [hi.out b hb]
    split <;> rfl
  · intro i j lo lo' h1 h2 h0 h0' hij
    exact hi.inj i j lo lo' (cutL_some h1).2 (cutL_some h2).2 h0 h0' hij
  · intro i lo h1 h0
    exact hi.inh i lo (cutL_some h1).2 h0
  · rintro b o v (hs | ⟨c, hc, lo, e1, e2, e3, e4, e5, e6⟩)
    · obtain ⟨k1, k2, k3, k4⟩ := hi.sta b o v hs
      exact ⟨k1, k2, k3, fun i lo h1 h0 => k4 i lo (cutL_some h1).2 h0⟩
    · refine ⟨e4, e5, e6, fun i lo' h1 h0 => ?_⟩
      obtain ⟨q1, q2⟩ := cutL_some h1
      rw [← e3]
      exact hi.inj i c lo' lo q2 e1 h0 e2 fun e => by subst e; rw [show bs.contains i = true by simpa using hc] at q1; cases q1
theorem rowsL_box {xs : List IV} {us : List Value} (h : RIs S L xs us) : ∀ b, (rowsL xs).contains b = true → ∀ lo, L b = some lo → lo.box = false := by
  induction xs generalizing us with
  | nil => intro b hb; simp [rowsL] at hb
  | cons x xs ih =>
    obtain ⟨v, r, rfl, h1, h2⟩ := h
    intro b hb lo hl
    cases x with
    | row c sz =>
      simp only [rowsL, List.contains_cons, Bool.or_eq_true, beq_iff_eq] at hb
      rcases hb with rfl | hb
      · obtain ⟨lo', e1, e2, _⟩ := h1; rw [hl] at e1; cases e1; exact e2
      · exact ih h2 b hb lo hl
    | rw c sz a n =>
      simp only [rowsL, List.contains_cons, Bool.or_eq_true, beq_iff_eq] at hb
      rcases hb with rfl | hb
      · obtain ⟨lo', e1, e2, _⟩ := h1; rw [hl] at e1; cases e1; exact e2
      · exact ih h2 b hb lo hl
    | _ => exact ih h2 b (by simpa [rowsL] using hb) lo hl
/-- The same state, told otherwise. -/
theorem Ext.re {n0 : Nat} {S0 S' : Mem} {L0 L' : Locs} {w0 : World} {H' : Hp} (e : Ext n0 S0 L0 w0 S L H w) (hi : Inv S' L' H' w) (h1 : ∀ b o u, S b o u → S' b o u) (h2 : ∀ b o u, S' b o u → S b o u ∨ Own L b)
    (h3 : ∀ i lo, L' i = some lo → lo.size ≠ 0 → Own L lo.blk) (h4 : ∀ i lo, i < n0 → L i = some lo → lo.box = true → L' i = some lo) (h5 : n0 ≤ H'.length) : Ext n0 S0 L0 w0 S' L' H' w where
  inv := hi
  kp := e.kp
  mem := fun b o u h => h1 _ _ _ (e.mem _ _ _ h)
  new := fun b o u h => by
    rcases h2 b o u h with h | ⟨i, lo, q1, q2, q3⟩
    · exact e.new _ _ _ h
    · rcases e.own i lo q1 q2 with q | q
      · rw [q3] at q; exact .inr (.inl q)
      · rw [q3] at q; exact .inr (.inr q)
  own := fun i lo h h0 => by
    obtain ⟨j, lo', q1, q2, q3⟩ := h3 i lo h h0
    rcases e.own j lo' q1 q2 with q | q
    · rw [q3] at q; exact .inl q
    · rw [q3] at q; exact .inr q
  box := fun i lo h hl hb => h4 i lo h (e.box i lo h hl hb) hb
  len := h5

/-! ### One operation -/
theorem put_rel {S : Mem} {L : Locs} {t : List IV} {a : Act} (ht : RIs S L t a.tmps.toList) (dst : Option Tmp) {r : IV} {v : Value} (hr : RI S L r v) : RIs S L (putI t dst r) (a.put dst v).tmps.toList := by
  cases dst with
  | none => exact ht
  | some d => simpa [putI, Act.put] using ht.set d hr
theorem put_defers' (a : Act) (dst : Option Tmp) (v : Value) : ((a.put dst v).defers, (a.put dst v).tmps.size) = (a.defers, a.tmps.size) := by cases dst <;> simp [Act.put]
/-- A state that the ideal machine may stand for. -/
structure At (n0 : Nat) (S0 : Mem) (L0 : Locs) (w0 : World) (ds : List Deferred × Nat) (S : Mem) (L : Locs) (t : List IV) (H : Hp) (a : Act) (w : World) : Prop where
  ext : Ext n0 S0 L0 w0 S L H w
  tmps : RIs S L t a.tmps.toList
  defers : (a.defers, a.tmps.size) = ds
theorem rowsH_box (hi : Inv S L H w) : ∀ b, (rowsH H).contains b = true → ∀ lo, L b = some lo → lo.box = false := by
  have key : ∀ (n : Nat) (H' : Hp), (∀ c k, H'[c]? = some k → H[n + c]? = some k) → ∀ b, (rowsH H').contains b = true → ∀ lo, L b = some lo → lo.box = false := by
    intro n H'
    induction H' generalizing n with
    | nil => intro _ b hb; simp [rowsH] at hb
    | cons x r ih =>
      intro hH b hb lo hl
      have hr : ∀ c k, r[c]? = some k → H[n + 1 + c]? = some k := fun c k hk => by
        have := hH (c + 1) k (by simpa using hk)
        rw [Nat.add_assoc, Nat.add_comm 1 c]; exact this
      have hx := hH 0 x rfl
      rw [Nat.add_zero] at hx
      cases x with
      | gc l =>
        simp only [rowsH, List.contains_append, Bool.or_eq_true] at hb
        rcases hb with hb | hb
        · rcases hi.blk n _ hx with e | ⟨lo', e1, cs, e2, e3, e4, e5, e6, e7, e8⟩
          · cases e
          · have e9 : l.length ≤ lo'.len := by omega
            exact rowsL_box e8 b hb lo hl
        · exact ih (n + 1) hr b hb lo hl
      | _ => exact ih (n + 1) hr b (by simpa [rowsH] using hb) lo hl
  exact key 0 H fun c k h => by rw [Nat.zero_add]; exact h
/-- Rows that turn no more from here on. -/
theorem At.frozen {n0 : Nat} {S0 : Mem} {L0 : Locs} {w0 : World} {ds : List Deferred × Nat} {a : Act} (hat : At n0 S0 L0 w0 ds S L t H a w) {bs : List Nat} (hbs : ∀ b, bs.contains b = true → ∀ lo, L b = some lo → lo.box = false) :
    ∃ S' L', At n0 S0 L0 w0 ds S' L' (killL (mapI (frzV H bs)) t) (deadH bs 0 (mapH (frzV H bs) H)) a w := by
  have hi := hat.ext.inv
  refine ⟨Sf S L w bs, cutL L bs, ?_, RIs_of _ (RI_mapI _ (frzV_rel hi hbs)) hat.tmps, hat.defers⟩
  refine hat.ext.re (frz_inv hi hbs) (fun b o u h => .inl h) ?_ (fun i lo h1 h0 => ⟨i, lo, (cutL_some h1).2, h0, rfl⟩) (fun i lo _ h1 hb => cutL_box hbs h1 hb) (by rw [deadH_len, length_mapH]; exact hat.ext.len)
  rintro b o u (h | ⟨c, _, lo, e1, e2, e3, _⟩)
  · exact .inl h
  · exact .inr ⟨c, lo, e1, e2, e3⟩
theorem okCall_run {P : Program} {f : FuncId} {fn : Func} (h : okCall P f = some fn) (args : Array Value) (w : World) : (callFunc f args).run P w = .ok (.enter f args) w ∧ P.funcs[f]? = some fn ∧ fn.body.isSome = true := by
  unfold okCall at h
  split at h
  · rename_i fn' hf
    split at h
    · rename_i hc
      cases h
      simp only [Bool.and_eq_true, bne_iff_ne] at hc
      have h1 : (fn.name == "runtime.NumGoroutine") = false := by simpa using hc.2
      have h2 : fn.body.isNone = false := by cases hb : fn.body <;> simp_all
      exact ⟨by simp only [callFunc, Sem.run_bind, run_program, Result.andThen_ok, hf, h1, h2, Bool.false_eq_true, if_false]; rfl, hf, hc.1⟩
    · cases h
  · cases h
theorem callI_fn {E : Env} {m : Mach} {f : FuncId} {args : List IV} {K : IV → Hp → Option ρ} (h : callI E m f args H K = some out) : ∃ fn, okCall E.P f = some fn := by
  unfold callI at h
  split at h
  · rename_i fn hfn; exact ⟨fn, hfn⟩
  · cases h
theorem callee_run {P : Program} {a : Act} (ht : RIs S L t a.tmps.toList) {dst : Option Tmp} {g : Operand} {args : Array Operand} {tys : Array TypeId} {type : TypeId} {pos : String} {after : Array Edge} {guard : Option (Nat × Bool)} {f : FuncId} {xs : List IV}
    (h : calleeOf t ⟨.value g, args, tys⟩ = some (f, xs)) {fn : Func} (hf : okCall P f = some fn) : ∃ vs : List Value, RIs S L xs vs ∧ (execOp a.eval ⟨dst, .call ⟨.value g, args, tys⟩, type, pos, after, guard⟩).run P w = .ok (.enter f vs.toArray) w := by
  have hg := ev_rel (S := S) (L := L) ht g
  have hl := evL_rel (S := S) (L := L) ht args.toList
  have mp : ∀ l : List Value, RIs S L (l.map fun x => IV.p (.v x)) l := fun l => by
    have : (l.map fun x => IV.p (.v x)) = (l.map PV.v).map .p := by simp
    rw [this]; exact RIs_mapP.2 (RPs_mapV l)
  unfold calleeOf at h
  simp only at h
  split at h
  · rename_i f' first cap he
    cases h
    rw [he] at hg
    simp only [RI, RP] at hg
    refine ⟨first.toList ++ args.toList.map a.eval ++ cap.toList, ((mp _).append hl).append (mp _), ?_⟩
    simp only [execOp, resolve, hg, Deferred.ofValue, Sem.run_bind, Sem.run_pure, Result.andThen_ok, invoke]
    rw [(okCall_run hf _ w).1]
    congr 2
    apply Array.ext'; simp
  · rename_i f' cap he
    cases h
    rw [he] at hg
    obtain ⟨_, cs, e1, e2⟩ := hg
    refine ⟨args.toList.map a.eval ++ cs, hl.append e2, ?_⟩
    simp only [execOp, resolve, e1, Deferred.ofValue, Sem.run_bind, Sem.run_pure, Result.andThen_ok, invoke]
    rw [(okCall_run hf _ w).1]
    congr 2
    apply Array.ext'; simp
  · cases h
/-- A function gone through in place is a call of the model's, over the caller's blocks. -/
def InlOK (P : Program) (T : Tab) (inl : FuncId → List IV → Hp → (ρ : Type) → KN ρ → Option ρ) : Prop := ∀ f args H ρ K out, inl f args H ρ K = some out → ∀ S L w vs, Good T S L w → Inv S L H w → RIs S L args vs →
  Calls P f vs.toArray w fun e w' => ∃ S' L' l us H', e = .returned (pack us) ∧ RIs S' L' l us ∧ Ext H.length S L w S' L' H' w' ∧ K l H' = some out
def CallsOK (E : Env) (T : Tab) (m : Mach) : Prop := CallOK E.P T m.call ∧ InlOK E.P T m.inl
theorem stabI_rel {S S' : Mem} {L L' : Locs} (hS : ∀ b o v, S b o v → S' b o v) (hL : ∀ i lo, L i = some lo → lo.box = true → L' i = some lo) (x : IV) (v : Value) (h : RI S L x v) : RI S' L' (stabI x) v := by
  cases x with
  | p x => exact RP.mono hS h
  | ptr b o => obtain ⟨lo, h1, h2, h3⟩ := h; exact ⟨lo, hL _ _ h1 h2, h2, h3⟩
  | it b => obtain ⟨lo, h1, h2, h3⟩ := h; exact ⟨lo, hL _ _ h1 h2, h2, h3⟩
  | fn f c => obtain ⟨h1, cs, rfl, h2⟩ := h; exact ⟨h1, cs, rfl, RIs_stab hS hL h1 h2⟩
  | _ => trivial
theorem callS_sound {E : Env} {m : Mach} {T : Tab} (hcp : CallsOK E T m) {dst : Option Tmp} {g : Operand} {args : Array Operand} {tys : Array TypeId} {type : TypeId} {pos : String} {after : Array Edge} {guard : Option (Nat × Bool)} {a : Act}
    {K : List IV → IV → Hp → Option ρ} (h : callS E m g args tys t H K = some out) {n0 : Nat} {S0 : Mem} {L0 : Locs} {w0 : World} {ds : List Deferred × Nat} (hg : Good T S0 L0 w0) (hat : At n0 S0 L0 w0 ds S L t H a w) {next : Act → World → Prop} {Q : Exit → Act → World → Prop}
    (hnext : ∀ S' L' t' r v H' w', At n0 S0 L0 w0 ds S' L' t' H' a w' → RI S' L' r v → K t' r H' = some out → next (a.put dst v) w') : (⟨dst, .call ⟨.value g, args, tys⟩, type, pos, after, guard⟩ : Oper).wp E.P a w next Q := by
  have hi := hat.ext.inv
  have ht := hat.tmps
  unfold callS at h
  split at h
  · rename_i f xs hcal
    split at h
    · split at h
      · rename_i fn hfn
        obtain ⟨us, h1, h2⟩ := callee_run (P := E.P) (w := w) (dst := dst) (type := type) (pos := pos) (after := after) (guard := guard) ht hcal hfn
        unfold Oper.wp
        rw [h2, Oper.upon_enter]
        refine (hcp.2 f xs H _ _ out h S L w us (hg.ext hat.ext) hi h1).mono ?_
        rintro e w' ⟨S', L', l, us', H', rfl, h3, h4, h5⟩
        have hL : ∀ i lo, L i = some lo → lo.box = true → L' i = some lo := fun i lo hl hb => h4.box i lo (by
          rcases Nat.lt_or_ge i H.length with q | q
          · exact q
          · rw [hi.out i q] at hl; cases hl) hl hb
        exact hnext S' L' _ _ _ H' w' ⟨hat.ext.trans h4 hat.ext.len, RIs_of _ (RI_mapI _ (stabI_rel h4.mem hL)) ht, hat.defers⟩ (outI_rel h3) h5
      · cases h
    split at h
    · obtain ⟨fn, hfn⟩ := callI_fn h
      obtain ⟨us, h1, h2⟩ := callee_run (P := E.P) (w := w) (dst := dst) (type := type) (pos := pos) (after := after) (guard := guard) ht hcal hfn
      unfold Oper.wp
      rw [h2, Oper.upon_enter]
      refine (callI_sound hcp.1 (hg.ext hat.ext) h hi h1).mono ?_
      rintro e w' ⟨v, S', L', r, H', rfl, h3, h4, h5, h6⟩
      exact hnext S' L' t r v H' w' ⟨hat.ext.trans h4 hat.ext.len, ht.mono h4.mem h6, hat.defers⟩ h5 h3
    · obtain ⟨us0, hx0, _⟩ : ∃ us0, RIs S L xs us0 ∧ True := by
        cases hcf : (killL (mapI (frzV H (rowsL xs))) t) with
        | nil =>
          have hg' := ev_rel (S := S) (L := L) ht g
          have hl := evL_rel (S := S) (L := L) ht args.toList
          have mp : ∀ l : List Value, RIs S L (l.map fun x => IV.p (.v x)) l := fun l => by
            have : (l.map fun x => IV.p (.v x)) = (l.map PV.v).map .p := by simp
            rw [this]; exact RIs_mapP.2 (RPs_mapV l)
          unfold calleeOf at hcal
          simp only at hcal
          split at hcal
          · cases hcal; exact ⟨_, ((mp _).append hl).append (mp _), trivial⟩
          · rename_i he
            cases hcal
            rw [he] at hg'
            obtain ⟨_, cs, _, e2⟩ := hg'
            exact ⟨_, hl.append e2, trivial⟩
          · cases hcal
        | cons _ _ =>
          have hg' := ev_rel (S := S) (L := L) ht g
          have hl := evL_rel (S := S) (L := L) ht args.toList
          have mp : ∀ l : List Value, RIs S L (l.map fun x => IV.p (.v x)) l := fun l => by
            have : (l.map fun x => IV.p (.v x)) = (l.map PV.v).map .p := by simp
            rw [this]; exact RIs_mapP.2 (RPs_mapV l)
          unfold calleeOf at hcal
          simp only at hcal
          split at hcal
          · cases hcal; exact ⟨_, ((mp _).append hl).append (mp _), trivial⟩
          · rename_i he
            cases hcal
            rw [he] at hg'
            obtain ⟨_, cs, _, e2⟩ := hg'
            exact ⟨_, hl.append e2, trivial⟩
          · cases hcal
      have hbs := rowsL_box hx0
      have hz := frz_inv hi hbs
      have htz : RIs (Sf S L w (rowsL xs)) (cutL L (rowsL xs)) (killL (mapI (frzV H (rowsL xs))) t) a.tmps.toList := RIs_of _ (RI_mapI _ (frzV_rel hi hbs)) ht
      have hez : Ext n0 S0 L0 w0 (Sf S L w (rowsL xs)) (cutL L (rowsL xs)) (deadH (rowsL xs) 0 (mapH (frzV H (rowsL xs)) H)) w := by
        refine hat.ext.re hz (fun b o u h => .inl h) ?_ (fun i lo h1 h0 => ⟨i, lo, (cutL_some h1).2, h0, rfl⟩) (fun i lo _ h1 hb => cutL_box hbs h1 hb) (by rw [deadH_len, length_mapH]; exact hat.ext.len)
        rintro b o u (h | ⟨c, _, lo, e1, e2, e3, _⟩)
        · exact .inl h
        · exact .inr ⟨c, lo, e1, e2, e3⟩
      split at h
      · rename_i f' ys hcal2
        obtain ⟨fn, hfn⟩ := callI_fn h
        obtain ⟨us, h1, h2⟩ := callee_run (P := E.P) (w := w) (dst := dst) (type := type) (pos := pos) (after := after) (guard := guard) htz hcal2 hfn
        unfold Oper.wp
        rw [h2, Oper.upon_enter]
        refine (callI_sound hcp.1 (hg.ext hez) h hz h1).mono ?_
        rintro e w' ⟨v, S', L', r, H', rfl, h3, h4, h5, h6⟩
        exact hnext S' L' _ r v H' w' ⟨hez.trans h4 hez.len, htz.mono h4.mem h6, hat.defers⟩ h5 h3
      · cases h
  · cases h
theorem stepK_sound {E : Env} {m : Mach} {T : Tab} (hcp : CallsOK E T m) {o : Oper} {a : Act} {K : KN ρ} (h : stepK E m t H o K = some out) {n0 : Nat} {S0 : Mem} {L0 : Locs} {w0 : World} {ds : List Deferred × Nat} (hg : Good T S0 L0 w0)
    (hat : At n0 S0 L0 w0 ds S L t H a w) {next : Act → World → Prop} {Q : Exit → Act → World → Prop}
    (hnext : ∀ S' L' t' H' a' w', At n0 S0 L0 w0 ds S' L' t' H' a' w' → K t' H' = some out → next a' w') : o.wp E.P a w next Q := by
  have hi := hat.ext.inv
  have ht := hat.tmps
  unfold stepK at h
  split at h
  · rename_i g args tys hop
    obtain ⟨dst, op, type, pos, after, guard⟩ := o
    simp only at hop
    subst hop
    exact callS_sound hcp h hg hat fun S' L' t' r v H' w' hat' hr hk => hnext S' L' _ H' _ w' ⟨hat'.ext, put_rel hat'.tmps dst hr, by rw [put_defers', hat'.defers]⟩ hk
  · have hok : ∃ r kl H', K (putI (killT kl t) o.dst r) (killHp kl H') = some out ∧ ∃ v w' L', ((execOp a.eval o).run E.P w = .ok (.value v) w' ∨ ((execOp a.eval o).run E.P w = .ok .skip w' ∧ v = Go.undef)) ∧ Ext H.length S L w S L' (killHp kl H') w' ∧ RI S L' r v ∧ RIs S L' (killT kl t) a.tmps.toList := by
      split at h
      · rename_i ty b sz hb hcut
        have hh : ∃ x, o.op = .slice ty x none (some hb) none ∧ evI t x = .row b sz := by
          unfold cutO at hcut
          split at hcut
          · rename_i ty' x' hi' he
            cases hE : E.cutT ty' with
            | false => rw [hE] at hcut; cases hcut
            | true =>
              rw [hE] at hcut
              simp only [cond_true] at hcut
              split at hcut
              · rename_i hrow
                cases hcut
                exact ⟨x', he, hrow⟩
              · cases hcut
          · cases hcut
        obtain ⟨x, h1, h2⟩ := hh
        exact truncK_sound hi ht h1 h2 h
      · exact opK_sound hi ht h
    obtain ⟨r, kl, H', h1, v, w', L', h2, h3, h4, h5⟩ := hok
    unfold Oper.wp
    rcases h2 with h2 | ⟨h2, rfl⟩
    · rw [h2, Oper.upon_value]
      exact hnext S L' _ _ _ w' ⟨hat.ext.trans h3 hat.ext.len, put_rel h5 _ h4, by rw [put_defers', hat.defers]⟩ h1
    · rw [h2, Oper.upon_skip]
      exact hnext S L' _ _ _ w' ⟨hat.ext.trans h3 hat.ext.len, put_rel h5 _ h4, by rw [put_defers', hat.defers]⟩ h1
end
end Go.Proofs.YtfaofikhabccoaaGreatDoor.Jv
