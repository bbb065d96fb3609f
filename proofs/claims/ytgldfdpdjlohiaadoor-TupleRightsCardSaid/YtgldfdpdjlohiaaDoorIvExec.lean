/- The ideal machine stands for the model: code, loops, functions; conditions: none. -/
import Derived.Test.YtgldfdpdjlohiaaDoorIvAny
import Derived.LoopN
namespace Go.Proofs.YtgldfdpdjlohiaaDoor.Iv
open Go Go.RowKit
section
variable {S : Mem} {L : Locs} {H : Hp} {w : World} {t t' : List IV} {out : IV × Hp} {vs : List Value}
variable {n : Nat} {S0 : Mem} {L0 : Locs} {w0 : World} {ds : List Deferred}
variable {E : Env} {cp : CallP} {inl : CallK} {lp : LoopF}

/-! ### Frames -/
theorem undefs_rel {vs : List Value} : RIs S L (undefs vs.length) vs := by
  induction vs with
  | nil => simp [undefs, RIs]
  | cons v vs ih => exact ⟨v, vs, rfl, trivial, ih⟩
theorem pad_rel {l : List IV} {vs : List Value} (h : RIs S L l (vs.take l.length)) (_ : l.length ≤ vs.length) : RIs S L (padT vs.length l) vs := by
  unfold padT
  have h2 : RIs S L (undefs (vs.length - l.length)) (vs.drop l.length) := by
    have := undefs_rel (S := S) (L := L) (vs := vs.drop l.length)
    rwa [List.length_drop] at this
  have := h.append h2
  rwa [List.take_append_drop] at this
theorem keepT_rel : ∀ (m : List Bool) {l : List IV} {vs : List Value}, RIs S L l vs → RIs S L (keepT m l) (vs.take (keepT m l).length) ∧ (keepT m l).length ≤ vs.length
  | [], l, vs, h => by simp [keepT, RIs]
  | b :: m, [], vs, h => by cases b <;> simp [keepT, RIs]
  | b :: m, x :: l, vs, h => by
    obtain ⟨v, r, rfl, h1, h2⟩ := h
    obtain ⟨h3, h4⟩ := keepT_rel m h2
    cases b with
    | true => exact ⟨by simpa [keepT] using RIs_cons.2 ⟨h1, h3⟩, by simpa [keepT] using h4⟩
    | false => exact ⟨by simpa [keepT] using RIs_cons.2 ⟨by simp [RI], h3⟩, by simpa [keepT] using h4⟩
theorem At.size {a : Act} {m : Nat} (h : At n S0 L0 w0 (ds, m) S L t H a w) : a.tmps.toList.length = m := by
  have := h.defers
  simp only [Prod.mk.injEq] at this
  simpa using this.2
/-- A loop's head: some slots are kept, blocks that nobody knows are dropped. -/
theorem At.head {a : Act} {m n0 : Nat} (h : At n S0 L0 w0 (ds, m) S L t H a w) (mask : List Bool) (hn : n ≤ n0) (hH : n0 ≤ H.length) :
    ∃ L', At n S0 L0 w0 (ds, m) S L' (padT m (keepT mask t)) (gcH n0 (keepT mask t) H) a w ∧ n0 ≤ (gcH n0 (keepT mask t) H).length := by
  obtain ⟨h1, h2⟩ := keepT_rel mask h.tmps
  obtain ⟨L', h3, h4, h5⟩ := Ext.gc h.ext.inv h1 hn hH
  refine ⟨L', ⟨h.ext.trans h3 (Nat.le_refl _), ?_, h.defers⟩, h5⟩
  have := pad_rel h4 h2
  rwa [h.size] at this
theorem At.kept {a : Act} {m : Nat} (h : At n S0 L0 w0 (ds, m) S L t H a w) (mask : List Bool) : At n S0 L0 w0 (ds, m) S L (padT m (keepT mask t)) H a w := by
  obtain ⟨h1, h2⟩ := keepT_rel mask h.tmps
  refine ⟨h.ext, ?_, h.defers⟩
  have := pad_rel h1 h2
  rwa [h.size] at this
theorem At.know {a : Act} {c : Operand} {b : Bool} {d : List Deferred × Nat} (h : At n S0 L0 w0 d S L t H a w) (hc : evI t c = .p (.v (.bool b))) : At n S0 L0 w0 d S L (knowB t c b) H a w := by
  cases c with
  | tmp i =>
    have : knowB t (.tmp i) b = t := set_self (getD_get (show t.getD i .undef = _ from hc) (by simp))
    rw [this]; exact h
  | _ => exact h

/-! ### Code -/
structure Post (n : Nat) (S0 : Mem) (L0 : Locs) (w0 : World) (d : List Deferred × Nat) (out : IV × Hp) (kn : KN) (kx : KX) (kr : KN) (Q : Exit → Act → World → Prop) : Prop where
  normal : ∀ S L t H a w, At n S0 L0 w0 d S L t H a w → kn t H = some out → Q .normal a w
  exit : ∀ id S L t H a w, At n S0 L0 w0 d S L t H a w → kx id t H = some out → Q (.exit id) a w
  ret : ∀ S L t H a w, At n S0 L0 w0 d S L t H a w → kr t H = some out → Q .ret a w
def LoopOK (E : Env) (T : Tab) (m : Nat) (lp : LoopF) : Prop := ∀ cx body n0 t H kn kx kr out, lp cx body n0 t H kn kx kr = some out → codeOK E body = true →
  ∀ n S0 L0 w0 ds S L a w, Good T S0 L0 w0 → n ≤ n0 → n0 ≤ H.length → At n S0 L0 w0 (ds, cx.nt) S L (padT cx.nt t) H a w → ∀ Q, Post n S0 L0 w0 (ds, cx.nt) out kn kx kr Q → Code.rounds E.P body Q m a w
theorem exec_sound {m : Nat} {T : Tab} (hm : E.P.follows .mixedOrders = true) (hcp : CpOK E.P T cp) (hinl : InlOK E.P T inl) (hlp : LoopOK E T m lp) (hg : Good T S0 L0 w0) {cx : Cx} :
    ∀ (c : Code) (S : Mem) (L : Locs) (t : List IV) (H : Hp) (a : Act) (w : World) (kn : KN) (kx : KX) (kr : KN) (Q : Exit → Act → World → Prop), codeOK E c = true →
      exec E cp inl lp cx c t H kn kx kr = some out → At n S0 L0 w0 (ds, cx.nt) S L t H a w → Post n S0 L0 w0 (ds, cx.nt) out kn kx kr Q → c.wp E.P Q a w := by
  intro c
  induction c with
  | skip => intro S L t H a w kn kx kr Q _ h hat hp; exact wp_skip (hp.normal _ _ _ _ _ _ hat h)
  | label l => intro S L t H a w kn kx kr Q _ h hat hp; exact wp_label (hp.normal _ _ _ _ _ _ hat h)
  | region id ops draw => intro S L t H a w kn kx kr Q hok h hat hp; exact region_sound hg hm hcp hinl hok h hat hp.normal
  | seq x y ihx ihy =>
    intro S L t H a w kn kx kr Q hok h hat hp
    simp only [codeOK, Bool.and_eq_true] at hok
    refine wp_seq (ihx S L t H a w _ kx kr _ hok.1 h hat ⟨?_, ?_, ?_⟩)
    · intro S' L' t' H' a' w' hat' hk; exact ihy S' L' t' H' a' w' kn kx kr Q hok.2 hk hat' hp
    · intro id S' L' t' H' a' w' hat' hk; exact hp.exit id _ _ _ _ _ _ hat' hk
    · intro S' L' t' H' a' w' hat' hk; exact hp.ret _ _ _ _ _ _ hat' hk
  | cond c x y ihx ihy =>
    intro S L t H a w kn kx kr Q hok h hat hp
    simp only [codeOK, Bool.and_eq_true] at hok
    simp only [exec] at h
    split at h
    · rename_i v hv
      have hc : a.eval c = .bool v := by
        have := ev_rel (S := S) (L := L) hat.tmps c
        rw [hv] at this
        exact this
      refine wp_cond hc ?_
      cases v with
      | true => exact ihx S L _ H a w kn kx kr Q hok.1 h (hat.know hv) hp
      | false => exact ihy S L _ H a w kn kx kr Q hok.2 h (hat.know hv) hp
    · cases h
  | block id x ih =>
    intro S L t H a w kn kx kr Q hok h hat hp
    refine wp_block (ih S L t H a w kn _ kr _ hok h hat ⟨?_, ?_, ?_⟩)
    · intro S' L' t' H' a' w' hat' hk; exact hp.normal _ _ _ _ _ _ hat' hk
    · intro j S' L' t' H' a' w' hat' hk
      show if j = id then Q .normal a' w' else Q (.exit j) a' w'
      split
      · rename_i e; rw [if_pos e] at hk; exact hp.normal _ _ _ _ _ _ hat' hk
      · rename_i e; rw [if_neg e] at hk; exact hp.exit j _ _ _ _ _ _ hat' hk
    · intro S' L' t' H' a' w' hat' hk; exact hp.ret _ _ _ _ _ _ hat' hk
  | loop x ih =>
    intro S L t H a w kn kx kr Q hok h hat hp
    exact wp_loop_rounds m (hlp cx x H.length _ H kn kx kr out h hok n S0 L0 w0 ds S L a w hg hat.ext.len (Nat.le_refl _) (hat.kept _) Q hp)
  | exit id => intro S L t H a w kn kx kr Q _ h hat hp; exact wp_exit (hp.exit id _ _ _ _ _ _ hat h)
  | ret => intro S L t H a w kn kx kr Q _ h hat hp; exact wp_ret (hp.ret _ _ _ _ _ _ hat h)
  | rangeFunc f ps x y => intro S L t H a w kn kx kr Q _ h; cases h
  | scope x => intro S L t H a w kn kx kr Q _ h; cases h
  | goto l => intro S L t H a w kn kx kr Q _ h; cases h
  | refuse why => intro S L t H a w kn kx kr Q _ h; cases h

/-! ### Results -/
theorem resK_sound {P : Program} {a : Act} (hi : Inv S L H w) (ht : RIs S L t a.tmps.toList) :
    ∀ (rs : List ResultVar) (K : List IV → R), resK P t H rs K = some out → ∃ l us, K l = some out ∧ RIs S L l us ∧
      ∀ f : ResultVar → Sem Value, (∀ u, f (.tmp u) = pure (a.tmps.getD u Go.undef)) → (∀ u ty, f (.cell u ty) = (do loadVar ty (← asAddr (a.tmps.getD u Go.undef)))) → (rs.mapM f).run P w = .ok us w
  | [], K, h => ⟨[], [], h, by simp [RIs], fun _ _ _ => by simp⟩
  | .tmp u :: rs, K, h => by
    obtain ⟨l, us, h1, h2, h3⟩ := resK_sound hi ht rs _ h
    refine ⟨_, _, h1, RIs_cons.2 ⟨ev_rel ht (.tmp u), h2⟩, fun f hf hc => ?_⟩
    simp [List.mapM_cons, hf, h3 f hf hc, Act.eval]
  | .cell u ty :: rs, K, h => by
    simp only [resK] at h
    split at h
    · rename_i b off hb
      have hv := ev_rel (S := S) (L := L) ht (.tmp u)
      rw [hb] at hv
      obtain ⟨lo, h1, h2, h3⟩ := hv
      obtain ⟨y, v, h4, h5, h6⟩ := load_blk hi h1 h
      obtain ⟨l, us, g1, g2, g3⟩ := resK_sound hi ht rs _ h4
      refine ⟨_, _, g1, RIs_cons.2 ⟨h5, g2⟩, fun f hf hc => ?_⟩
      simp only [Act.eval] at h3
      simp only [Instr.loadAt, Instr.sureAddr, Sem.run_bind, Sem.run_pure, Result.andThen_ok] at h6
      rw [List.mapM_cons, hc, h3]
      simp [asAddr, h6, g3 f hf hc]
    · cases h
theorem endK_sound {P : Program} {fn : Func} {a : Act} {K : IV → Hp → R} (hi : Inv S L H w) (ht : RIs S L t a.tmps.toList) (h : endK P fn K t H = some out) :
    ∃ r v, K r H = some out ∧ RI S L r v ∧ (results fn a.tmps).run P w = .ok v w := by
  unfold endK at h
  obtain ⟨l, us, h1, h2, h3⟩ := resK_sound hi ht fn.results.toList _ h
  have hrun : (results fn a.tmps).run P w = .ok (if h : us.toArray.size = 1 then us.toArray[0] else .tuple us.toArray) w := by
    unfold results
    rw [show fn.results = fn.results.toList.toArray from by simp, List.mapM_toArray]
    simp only [Sem.run_bind, Sem.run_map]
    rw [h3]
    · simp
    · intro u; rfl
    · intro u ty; rfl
  refine ⟨_, _, h1, ?_, hrun⟩
  have hl := h2.length
  unfold outI
  split
  · rename_i x
    obtain ⟨v, r, rfl, h4, h5⟩ := h2
    simp only [RIs] at h5
    subst h5
    exact h4
  · rename_i hne
    rw [dif_neg]
    · exact mkTup_rel h2
    · intro he
      have : l.length = 1 := by rw [← hl]; simpa using he
      obtain ⟨x, rfl⟩ := List.length_eq_one_iff.1 this
      exact hne x rfl

/-! ### The machine -/
/-- What is told of functions holds. -/
def IntrOK (E : Env) (T : Tab) : Prop := ∀ f g, E.intr f = some g → ∀ args r, g args = some r → ∀ S w vs, Good T S noL w → Inv S noL [] w → RPs S args vs →
  Calls E.P f vs.toArray w fun e w' => ∃ v S', e = .returned v ∧ (∀ b o u, S b o u → S' b o u) ∧ (∀ b o u, S' b o u → S b o u ∨ w.heap.size ≤ b) ∧ Inv S' noL [] w' ∧ Below w.heap.size w w' ∧ RP S' r v
/-- The functions' regions have been looked at. -/
def OkOK (E : Env) : Prop := ∀ f fn c, E.ok f = true → E.P.funcs[f]? = some fn → fn.body = some c → codeOK E c = true
def CallOK (E : Env) (T : Tab) (call : FuncId → List IV → Hp → R) : Prop := ∀ f args H out, call f args H = some out → ∀ S L w vs, Good T S L w → Inv S L H w → RIs S L args vs →
  Calls E.P f vs.toArray w fun e w' => ∃ v S' L', e = .returned v ∧ Ext H.length S L w S' L' out.2 w' ∧ RI S' L' out.1 v
theorem cp_sound {T : Tab} {call : FuncId → List IV → Hp → R} (hin : IntrOK E T) (hc : CallOK E T call) : CpOK E.P T (cpOf E call) := by
  intro f args r h S w vs hg hi hargs
  unfold cpOf at h
  split at h
  · rename_i g hgf; exact hin f g hgf args r h S w vs hg hi hargs
  · split at h
    · rename_i y H' hy
      refine (hc f _ [] _ hy S noL w vs hg hi (RIs_mapP.2 hargs)).mono ?_
      rintro e w' ⟨v, S', L', rfl, h1, h2⟩
      refine ⟨v, froz S' L' w', rfl, fun b o u hu => .inl (h1.mem b o u hu), fun b o u hu => ?_, froz_inv h1.inv, ?_, freeze_sound h1.inv 3 _ _ _ h h2⟩
      · rcases hu with hu | ⟨⟨i, lo, h3, rfl⟩, h4, h5⟩
        · exact h1.new b o u hu
        · rcases h1.own i lo h3 with ⟨j, lo', h6, _⟩ | h6
          · cases h6
          · exact .inr h6
      · refine (h1.kp.mono fun k hk => ?_).below
        obtain ⟨j, lo', h6, _⟩ := hk
        cases h6
    · cases h
theorem body_sound {k : Nat} {T : Tab} (hg : Good T S L w) (hm : E.P.follows .mixedOrders = true) (hok : OkOK E) {m : Mach} (hcp : CpOK E.P T (cpOf E m.call)) (hinl : InlOK E.P T m.inl) (hlp : LoopOK E T k m.loop) {f : FuncId} {args : List IV} {K : IV → Hp → R}
    (h : bodyI E m f args H K = some out) (hi : Inv S L H w) (hargs : RIs S L args vs) : Calls E.P f vs.toArray w fun e w' => ∃ v S' L' r H', e = .returned v ∧ K r H' = some out ∧ Ext H.length S L w S' L' H' w' ∧ RI S' L' r v := by
  unfold bodyI at h
  split at h
  · rename_i fn hfn
    split at h
    · rename_i c hc
      split at h
      · rename_i hlen
        have hf := (okCall_run hfn vs.toArray w).2.1
        have hvl := hargs.length
        refine calls_of_wp hf hc ?_
        have hat : At H.length S L w ([], fn.ntmps) S L (padT fn.ntmps args) H { tmps := vs.toArray ++ Array.replicate (fn.ntmps - vs.toArray.size) Go.undef, defers := [] } w := by
          refine ⟨Ext.refl hi (Nat.le_refl _), ?_, by simp; omega⟩
          have : (vs.toArray ++ Array.replicate (fn.ntmps - vs.toArray.size) Go.undef).toList = vs ++ List.replicate (fn.ntmps - args.length) Go.undef := by simp [hvl]
          simp only
          rw [this]
          unfold padT
          refine hargs.append ?_
          have := undefs_rel (S := S) (L := L) (vs := List.replicate (fn.ntmps - args.length) Go.undef)
          rwa [List.length_replicate] at this
        refine exec_sound hm hcp hinl hlp hg (cx := ⟨f, fn.ntmps⟩) c S L _ H _ w _ _ _ _ (hok f fn c hlen.2 hf hc) h hat ⟨?_, ?_, ?_⟩
        · intro S' L' t' H' a' w' hat' hk
          obtain ⟨r, v, h1, h2, h3⟩ := endK_sound hat'.ext.inv hat'.tmps hk
          have hd := hat'.defers
          simp only [Prod.mk.injEq] at hd
          exact ⟨hd.1, v, h3, v, S', L', r, H', rfl, h1, hat'.ext, h2⟩
        · intro id S' L' t' H' a' w' hat' hk; cases hk
        · intro S' L' t' H' a' w' hat' hk
          obtain ⟨r, v, h1, h2, h3⟩ := endK_sound hat'.ext.inv hat'.tmps hk
          have hd := hat'.defers
          simp only [Prod.mk.injEq] at hd
          exact ⟨hd.1, v, h3, v, S', L', r, H', rfl, h1, hat'.ext, h2⟩
      · cases h
    · cases h
  · cases h
/-- The ideal machine's runs are the model's. -/
theorem mach_sound {T : Tab} (hm : E.P.follows .mixedOrders = true) (hin : IntrOK E T) (hok : OkOK E) : ∀ k, CallOK E T (mach E k).call ∧ InlOK E.P T (mach E k).inl ∧ LoopOK E T k (mach E k).loop
  | 0 => ⟨fun _ _ _ _ h => (by cases h), fun _ _ _ _ _ h => (by cases h), fun _ _ _ _ _ _ _ _ _ h => (by cases h)⟩
  | k + 1 => by
    obtain ⟨h1, h2, h3⟩ := mach_sound hm hin hok k
    have hcp := cp_sound hin h1
    refine ⟨?_, ?_, ?_⟩
    · intro f args H out h S L w vs hg hi hargs
      refine (body_sound hg hm hok hcp h2 h3 h hi hargs).mono ?_
      rintro e w' ⟨v, S', L', r, H', rfl, g1, g2, g3⟩
      cases g1
      exact ⟨v, S', L', rfl, g2, g3⟩
    · intro f args H K out h S L w vs hg hi hargs
      exact body_sound hg hm hok hcp h2 h3 h hi hargs
    · intro cx body n0 t H kn kx kr out h hb n S0 L0 w0 ds S L a w hg hn hH hat Q hp
      have hat0 : At n0 S L w (ds, cx.nt) S L (padT cx.nt t) H a w := ⟨Ext.refl hat.ext.inv hH, hat.tmps, hat.defers⟩
      have up : ∀ {S' L' t' H' a' w'}, At n0 S L w (ds, cx.nt) S' L' t' H' a' w' → At n S0 L0 w0 (ds, cx.nt) S' L' t' H' a' w' := fun h => ⟨hat.ext.trans h.ext hn, h.tmps, h.defers⟩
      refine exec_sound hm hcp h2 h3 (hg.ext hat.ext) body S L _ H a w _ _ _ _ hb h hat0 ⟨?_, ?_, ?_⟩
      · intro S' L' t' H' a' w' hat' hk
        obtain ⟨L'', g1, g2⟩ := (up hat').head (E.keep cx.f) hn hat'.ext.len
        exact h3 cx body n0 _ _ kn kx kr out hk hb n S0 L0 w0 ds S' L'' a' w' hg hn g2 g1 Q hp
      · intro id S' L' t' H' a' w' hat' hk; exact hp.exit id _ _ _ _ _ _ (up hat') hk
      · intro S' L' t' H' a' w' hat' hk; exact hp.ret _ _ _ _ _ _ (up hat') hk
end
end Go.Proofs.YtgldfdpdjlohiaaDoor.Iv
