/- Calls and regions of the ideal machine are the model's; conditions: none. -/
import Derived.Test.YtgldfdpdjlohiaaDoorIvCall
namespace Go.Proofs.YtgldfdpdjlohiaaDoor.Iv
open Go Go.RowKit
section
variable {S : Mem} {L : Locs} {H : Hp} {w : World} {t : List IV} {vs : List Value} {out : IV × Hp}

/-- What stands in memory while the law runs: cells, and whole blocks. -/
structure Tab where
  cells : Mem
  blks : Nat → Obj → Prop
def Good (T : Tab) (S : Mem) (L : Locs) (w : World) : Prop := (∀ b o u, T.cells b o u → S b o u) ∧ ∀ g o, T.blks g o → w.heap[g]? = some o ∧ ¬ Own L g
theorem Good.ext {T : Tab} {S S' : Mem} {L L' : Locs} {H' : Hp} {w w' : World} {n : Nat} (h : Good T S L w) (e : Ext n S L w S' L' H' w') : Good T S' L' w' := by
  refine ⟨fun b o u hu => e.mem b o u (h.1 b o u hu), fun g o hg => ?_⟩
  obtain ⟨h1, h2⟩ := h.2 g o hg
  have hlt : g < w.heap.size := (Array.getElem?_eq_some_iff.1 h1).1
  refine ⟨by rw [e.kp.block g hlt h2]; exact h1, fun ⟨i, lo, h3, h4⟩ => ?_⟩
  rcases e.own i lo h3 with h5 | h5
  · rw [h4] at h5; exact h2 h5
  · omega
theorem Good.bare {T : Tab} {S : Mem} {L : Locs} {w : World} (h : Good T S L w) : Good T S noL w := ⟨h.1, fun g o hg => ⟨(h.2 g o hg).1, fun ⟨i, lo, h3, _⟩ => by cases h3⟩⟩
theorem Good.froz {T : Tab} {S : Mem} {L : Locs} {w : World} (h : Good T S L w) : Good T (froz S L w) noL w := ⟨fun b o u hu => froz_sub b o u (h.1 b o u hu), h.bare.2⟩
/-- A call by values is one of the model's. -/
def CpOK (P : Program) (T : Tab) (cp : CallP) : Prop := ∀ f args r, cp f args = some r → ∀ S w vs, Good T S noL w → Inv S noL [] w → RPs S args vs →
  Calls P f vs.toArray w fun e w' => ∃ v S', e = .returned v ∧ (∀ b o u, S b o u → S' b o u) ∧ (∀ b o u, S' b o u → S b o u ∨ w.heap.size ≤ b) ∧ Inv S' noL [] w' ∧ Below w.heap.size w w' ∧ RP S' r v
/-- A call in place is one of the model's. -/
def InlOK (P : Program) (T : Tab) (inl : CallK) : Prop := ∀ f args H K out, inl f args H K = some out → ∀ S L w vs, Good T S L w → Inv S L H w → RIs S L args vs →
  Calls P f vs.toArray w fun e w' => ∃ v S' L' r H', e = .returned v ∧ K r H' = some out ∧ Ext H.length S L w S' L' H' w' ∧ RI S' L' r v

theorem Inv.bare (hi : Inv S L H w) : Inv S noL [] w :=
  ⟨(fun b k h => by simp at h), (fun _ _ => rfl), (fun i j a b h => by cases h), (fun i a h => by cases h), fun b o v h => by
    obtain ⟨h1, h2, h3, _⟩ := hi.sta b o v h
    exact ⟨h1, h2, h3, fun i a h => by cases h⟩⟩
theorem Kp.of_below {O : Nat → Prop} {w w' : World} (h : Below w.heap.size w w') : Kp O w w' := ⟨h.os, h.tape, h.output, h.size, fun k hk _ => h.block k hk⟩
/-- Behind a call by values one's own blocks stand, and more may be known. -/
theorem Ext.call {S' : Mem} {w' : World} (hi : Inv S L H w) (hs : ∀ b o u, S b o u → S' b o u) (hn : ∀ b o u, S' b o u → S b o u ∨ w.heap.size ≤ b) (hi' : Inv S' noL [] w') (hb : Below w.heap.size w w') : Ext H.length S L w S' L H w' := by
  refine ⟨⟨fun b k hk => ?_, hi.out, hi.inj, fun i a h => Nat.lt_of_lt_of_le (hi.inh i a h) hb.size, fun b o v h => ?_⟩, Kp.of_below hb, hs, hn, fun i a h => .inl ⟨i, a, h, rfl⟩, fun _ _ _ h _ => h, Nat.le_refl _⟩
  · rcases hi.blk b k hk with e | ⟨lo, h1, h2⟩
    · exact .inl e
    · exact .inr ⟨lo, h1, h2.mono hs (hb.block _ (hi.inh _ _ h1)) fun _ _ h => h⟩
  · obtain ⟨h1, h2, h3, _⟩ := hi'.sta b o v h
    refine ⟨h1, h2, h3, fun i a ha => ?_⟩
    rcases hn b o v h with h4 | h4
    · exact (hi.sta b o v h4).2.2.2 i a ha
    · have := hi.inh i a ha; omega
theorem allIsP_some {l : List IV} (h : allIsP l = true) : ∃ ps : List PV, l = ps.map .p := by
  induction l with
  | nil => exact ⟨[], rfl⟩
  | cons x l ih =>
    simp only [allIsP, Bool.and_eq_true] at h
    obtain ⟨ps, rfl⟩ := ih h.2
    cases x <;> simp only [isP] at h <;> try (cases h.1; done)
    rename_i y; exact ⟨y :: ps, rfl⟩
theorem lendL_p {ps qs : List PV} (h : lendL H (ps.map .p) = some qs) : qs = ps := by
  unfold lendL at h
  induction ps generalizing qs with
  | nil => cases h; rfl
  | cons x ps ih =>
    simp only [List.map_cons, freezeL] at h
    have : lend H (.p x) = some x := by unfold lend; rfl
    rw [this] at h
    simp only at h
    split at h
    · rename_i r hr; cases h; rw [ih hr]
    · cases h

theorem callI_sound {E : Env} {cp : CallP} {inl : CallK} {T : Tab} (hcp : CpOK E.P T cp) (hinl : InlOK E.P T inl) (hg : Good T S L w) {f : FuncId} {args : List IV} {K : Bool → IV → Hp → R} (h : callI E cp inl f args H K = some out)
    (hi : Inv S L H w) (hargs : RIs S L args vs) : Calls E.P f vs.toArray w fun e w' => ∃ v S' L' r H' d, e = .returned v ∧ K d r H' = some out ∧ Ext H.length S L w S' L' H' w' ∧ RI S' L' r v ∧ (d = false → L' = L) := by
  unfold callI at h
  split at h
  · rename_i fn hfn
    split at h
    · split at h
      · rename_i ps hps
        unfold callT at h
        split at h
        · cases h
        · rename_i hfl
          split at h
          · rename_i p hp
            split at h
            · rename_i xs hxs
              split at h
              · rename_i ys hys
                cases hall : allIsP args with
                | true =>
                  obtain ⟨qs, rfl⟩ := allIsP_some hall
                  have e1 := lendL_p hps
                  subst e1
                  refine (hcp f _ p hp S w vs hg.bare hi.bare (RIs_mapP.1 hargs)).mono ?_
                  rintro e w' ⟨v, S', rfl, h1, h2, h3, h4, h5⟩
                  obtain ⟨zs, g1, g2, g3, g4⟩ := elimT_sound h
                  obtain ⟨cs, k1, k2⟩ := resIn_rel hxs h5
                  obtain ⟨fs, k3, k4, k5⟩ := spread_gather hys k2
                  obtain ⟨k6, k7⟩ := k5 S' zs (g4 _ _ k3)
                  exact ⟨v, S', L, _, H, false, rfl, g1, Ext.call hi h1 h2 h3 h4, comps_out k1 (RIs_mapP.2 k6) (by simp [k7]), fun _ => rfl⟩
                | false =>
                  rw [hall] at hfl
                  have hflat : flatK (resCks E.P fn.resultTypes.toList) = true := by simpa using hfl
                  have hlend : RPs (froz S L w) ps vs := freezeL_sound (fun x y v h hx => freeze_sound hi 3 x y v h hx) hps hargs
                  refine (hcp f _ p hp (froz S L w) w vs hg.froz (froz_inv hi) hlend).mono ?_
                  rintro e w' ⟨v, S', rfl, h1, h2, h3, h4, h5⟩
                  obtain ⟨us, g1, rfl⟩ := flat_vals hflat h
                  obtain ⟨cs, k1, k2⟩ := resIn_rel hxs h5
                  obtain ⟨fs, k3, k4, k5⟩ := spread_gather hys k2
                  rw [RPs_mapV'] at k3
                  subst k3
                  obtain ⟨k6, k7⟩ := k5 S _ (RPs_mapV fs)
                  exact ⟨v, S, L, _, H, false, rfl, g1, Ext.call hi (fun _ _ _ h => h) (fun _ _ _ h => .inl h) ⟨(fun b k h => by simp at h), (fun _ _ => rfl), (fun i j a b h => by cases h), (fun i a h => by cases h), fun b o u hu => by
                    obtain ⟨q1, q2, q3, _⟩ := hi.sta b o u hu
                    exact ⟨by rw [h4.cell (p := ⟨b, o, none⟩) q3]; exact q1, q2, Nat.lt_of_lt_of_le q3 h4.size, fun i a h => by cases h⟩⟩ h4, comps_out k1 (RIs_mapP.2 k6) (by simp [k7]), fun _ => rfl⟩
              · cases h
            · cases h
          · cases h
      · cases h
    · refine (hinl f args H _ out h S L w vs hg hi hargs).mono ?_
      rintro e w' ⟨v, S', L', r, H', rfl, h1, h2, h3⟩
      exact ⟨v, S', L', r, H', true, rfl, h1, h2, h3, fun h => by cases h⟩
  · cases h

/-! ### One operation -/
theorem put_rel {S : Mem} {L : Locs} {t : List IV} {a : Act} (ht : RIs S L t a.tmps.toList) (dst : Option Tmp) {r : IV} {v : Value} (hr : RI S L r v) : RIs S L (putI t dst r) (a.put dst v).tmps.toList := by
  cases dst with
  | none => exact ht
  | some d => simpa [putI, Act.put] using ht.set d hr
theorem put_defers' (a : Act) (dst : Option Tmp) (v : Value) : ((a.put dst v).defers, (a.put dst v).tmps.size) = (a.defers, a.tmps.size) := by cases dst <;> simp [Act.put]
/-- A state that the ideal machine may stand for. -/
structure At (n : Nat) (S0 : Mem) (L0 : Locs) (w0 : World) (ds : List Deferred × Nat) (S : Mem) (L : Locs) (t : List IV) (H : Hp) (a : Act) (w : World) : Prop where
  ext : Ext n S0 L0 w0 S L H w
  tmps : RIs S L t a.tmps.toList
  defers : (a.defers, a.tmps.size) = ds
theorem okCall_run {P : Program} {f : FuncId} {fn : Func} (h : okCall P f = some fn) (args : Array Value) (w : World) : (callFunc f args).run P w = .ok (.enter f args) w ∧ P.funcs[f]? = some fn ∧ fn.body.isSome = true := by
  unfold okCall at h
  split at h
  · rename_i fn' hf
    split at h
    · rename_i hc
      cases h
      simp only [Bool.and_eq_true, bne_iff_ne] at hc
      have h1 : (fn.name == "runtime.NumGoroutine") = false := by simpa using hc.2
      have h2 : fn.body.isNone = false := by cases hb : fn.body <;> simp_all
      exact ⟨by simp only [callFunc, Sem.run_bind, run_program, Result.andThen_ok, hf, h1, h2, Bool.false_eq_true, if_false]; rfl, hf, hc.1⟩
    · cases h
  · cases h
theorem callI_fn {E : Env} {cp : CallP} {inl : CallK} {f : FuncId} {args : List IV} {K : Bool → IV → Hp → R} (h : callI E cp inl f args H K = some out) : ∃ fn, okCall E.P f = some fn := by
  unfold callI at h
  split at h
  · rename_i fn hfn; exact ⟨fn, hfn⟩
  · cases h
theorem callee_run {P : Program} {a : Act} (ht : RIs S L t a.tmps.toList) {dst : Option Tmp} {g : Operand} {args : Array Operand} {tys : Array TypeId} {type : TypeId} {pos : String} {after : Array Edge} {guard : Option (Nat × Bool)} {f : FuncId} {xs : List IV}
    (h : calleeOf t ⟨.value g, args, tys⟩ = some (f, xs)) {fn : Func} (hf : okCall P f = some fn) : ∃ vs : List Value, RIs S L xs vs ∧ (execOp a.eval ⟨dst, .call ⟨.value g, args, tys⟩, type, pos, after, guard⟩).run P w = .ok (.enter f vs.toArray) w := by
  have hg := ev_rel (S := S) (L := L) ht g
  have hl := evL_rel (S := S) (L := L) ht args.toList
  have mp : ∀ l : List Value, RIs S L (l.map fun x => IV.p (.v x)) l := fun l => by
    have : (l.map fun x => IV.p (.v x)) = (l.map PV.v).map .p := by simp
    rw [this]; exact RIs_mapP.2 (RPs_mapV l)
  unfold calleeOf at h
  simp only at h
  split at h
  · rename_i f' first cap he
    cases h
    rw [he] at hg
    simp only [RI, RP] at hg
    refine ⟨first.toList ++ args.toList.map a.eval ++ cap.toList, ((mp _).append hl).append (mp _), ?_⟩
    simp only [execOp, resolve, hg, Deferred.ofValue, Sem.run_bind, Sem.run_pure, Result.andThen_ok, invoke]
    rw [(okCall_run hf _ w).1]
    congr 2
    apply Array.ext'; simp
  · rename_i f' cap he
    cases h
    rw [he] at hg
    obtain ⟨_, cs, e1, e2⟩ := hg
    refine ⟨args.toList.map a.eval ++ cs, hl.append e2, ?_⟩
    simp only [execOp, resolve, e1, Deferred.ofValue, Sem.run_bind, Sem.run_pure, Result.andThen_ok, invoke]
    rw [(okCall_run hf _ w).1]
    congr 2
    apply Array.ext'; simp
  · cases h
theorem stepK_sound {E : Env} {cp : CallP} {inl : CallK} {T : Tab} (hcp : CpOK E.P T cp) (hinl : InlOK E.P T inl) {o : Oper} {a : Act} {K : KN} (h : stepK E cp inl t H o K = some out) {n : Nat} {S0 : Mem} {L0 : Locs} {w0 : World} {ds : List Deferred × Nat} (hg : Good T S0 L0 w0) (hn : n ≤ H.length)
    (hat : At n S0 L0 w0 ds S L t H a w) {next : Act → World → Prop} {Q : Exit → Act → World → Prop}
    (hnext : ∀ S' L' t' H' a' w', At n S0 L0 w0 ds S' L' t' H' a' w' → K t' H' = some out → next a' w') : o.wp E.P a w next Q := by
  have hi := hat.ext.inv
  have ht := hat.tmps
  unfold stepK at h
  split at h
  · rename_i g args tys hop
    split at h
    · rename_i f xs hcal
      obtain ⟨fn, hfn⟩ := callI_fn h
      obtain ⟨dst, op, type, pos, after, guard⟩ := o
      simp only at hop
      subst hop
      obtain ⟨us, h1, h2⟩ := callee_run (P := E.P) (w := w) (dst := dst) (type := type) (pos := pos) (after := after) (guard := guard) ht hcal hfn
      unfold Oper.wp
      rw [h2, Oper.upon_enter]
      refine (callI_sound hcp hinl (hg.ext hat.ext) h hi h1).mono ?_
      rintro e w' ⟨v, S', L', r, H', d, rfl, h3, h4, h5, h6⟩
      refine hnext S' L' _ H' _ w' ⟨hat.ext.trans h4 hn, ?_, by rw [put_defers', hat.defers]⟩ h3
      refine put_rel ?_ dst h5
      cases d with
      | false => exact ht.mono h4.mem (fun i lo h => by rw [h6 rfl]; exact h)
      | true => exact RIs_of dropU (fun x v h => RI_drop h4.mem (fun i lo h1 h2 => h4.box i lo (by
          rcases Nat.lt_or_ge i H.length with q | q
          · exact q
          · rw [hi.out i q] at h1; cases h1) h1 h2) x v h) ht
    · cases h
  · obtain ⟨r, kl, H', h1, v, w', L', h2, h3, h4, h5⟩ := opK_sound hi ht h
    unfold Oper.wp
    rcases h2 with h2 | ⟨h2, rfl⟩
    · rw [h2, Oper.upon_value]
      exact hnext S L' _ _ _ w' ⟨hat.ext.trans h3 hn, put_rel h5 _ h4, by rw [put_defers', hat.defers]⟩ h1
    · rw [h2, Oper.upon_skip]
      exact hnext S L' _ _ _ w' ⟨hat.ext.trans h3 hn, put_rel h5 _ h4, by rw [put_defers', hat.defers]⟩ h1
end
end Go.Proofs.YtgldfdpdjlohiaaDoor.Iv
