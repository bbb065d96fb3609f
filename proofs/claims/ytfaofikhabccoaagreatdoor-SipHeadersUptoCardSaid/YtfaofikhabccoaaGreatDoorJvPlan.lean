/- Regions gone through by plan: what asks nothing of the blocks first, then the rest, one behind the other; conditions: none. -/
import Derived.Test.YtfaofikhabccoaaGreatDoorJvAny
import Derived.OrdersHeld
namespace Go.Proofs.YtfaofikhabccoaaGreatDoor.Jv
open Go Go.RowKit
set_option linter.unusedVariables false
set_option linter.unusedSimpArgs false
section
variable {ρ : Type} {S : Mem} {L : Locs} {H : Hp} {w : World} {t t' : List IV} {out : ρ}
variable {n0 : Nat} {S0 : Mem} {L0 : Locs} {w0 : World} {ds : List Deferred × Nat}
variable {E : Env} {m : Mach} {ops : Array Oper} {K : KN ρ} {Q : Exit → Act → World → Prop}
/-! ### Boxes that turn no more -/
theorem pcs_get : ∀ (n : Nat) (H : Hp) (b : Nat), (pcs n H).contains b = true → ∃ l, n ≤ b ∧ H[b - n]? = some (.pc l)
  | _, [], b, h => by cases h
  | n, k :: H, b, h => by
    have step : (pcs (n + 1) H).contains b = true → ∃ l, n ≤ b ∧ (k :: H)[b - n]? = some (.pc l) := fun h => by
      obtain ⟨l, h1, h2⟩ := pcs_get (n + 1) H b h
      refine ⟨l, by omega, ?_⟩
      rw [show b - n = (b - (n + 1)) + 1 by omega, List.getElem?_cons_succ]
      exact h2
    cases k with
    | pc l =>
      simp only [pcs, List.contains_cons, Bool.or_eq_true, beq_iff_eq] at h
      rcases h with rfl | h
      · exact ⟨l, Nat.le_refl _, by simp⟩
      · exact step h
    | _ => exact step h
theorem frzB_rel (hi : Inv S L H w) (x : IV) (v : Value) (h : RI S L x v) : RI (Sf S L w (pcs 0 H)) (cutL L (pcs 0 H)) (frzB H (pcs 0 H) x) v := by
  cases x with
  | p x => exact RP.mono (fun b o v h => Sf_sub _ b o v h) h
  | row b sz =>
    simp only [frzB]
    cases hc : (pcs 0 H).contains b with
    | true => trivial
    | false => obtain ⟨lo, h1, h2⟩ := h; exact ⟨lo, cutL_of hc h1, h2⟩
  | rw b sz o n =>
    simp only [frzB]
    cases hc : (pcs 0 H).contains b with
    | true => trivial
    | false => obtain ⟨lo, h1, h2⟩ := h; exact ⟨lo, cutL_of hc h1, h2⟩
  | eptr b sz k o =>
    simp only [frzB]
    cases hc : (pcs 0 H).contains b with
    | true => trivial
    | false => obtain ⟨lo, h1, h2⟩ := h; exact ⟨lo, cutL_of hc h1, h2⟩
  | it b =>
    simp only [frzB]
    cases hc : (pcs 0 H).contains b with
    | true => trivial
    | false => obtain ⟨lo, h1, h2⟩ := h; exact ⟨lo, cutL_of hc h1, h2⟩
  | ptr b off =>
    simp only [frzB]
    cases hc : (pcs 0 H).contains b with
    | false => obtain ⟨lo, h1, h2⟩ := h; exact ⟨lo, cutL_of hc h1, h2⟩
    | true =>
      obtain ⟨lo, h1, h2, rfl⟩ := h
      simp only [if_true]
      split
      · rename_i l hH
        rcases hi.blk b _ hH with e | ⟨lo', e1, cs, f1, f2, f3, f4, f5, f6, f7⟩
        · cases e
        rw [h1] at e1; cases e1
        refine ⟨_, _, rfl, RPm_of (cs := (cs.take lo.len).drop off) (((RIs_mapP.1 f7).mono fun b o v h => Sf_sub _ b o v h).drop off) fun j v hj => ?_⟩
        rw [List.getElem?_drop, List.getElem?_take] at hj
        split at hj
        · have hz : lo.size ≠ 0 := by have := (List.getElem?_eq_some_iff.1 hj).1; omega
          refine .inr ⟨b, by simpa using hc, lo, h1, hz, rfl, ?_, f6 v (List.mem_of_getElem? hj), hi.inh _ _ h1 hz⟩
          have := f4 _ v hj
          rwa [Nat.zero_add] at this
        · cases hj
      · trivial
  | _ => trivial
/-! ### What asks nothing of the blocks -/
theorem early_yields {P : Program} {a : Act} {o : Oper} {y : PV} (ht : RIs S L t a.tmps.toList) (hi : Inv S noL [] w) (h : earlyV P t o = some y) : ∃ v, RP S y v ∧ ∀ w', Inv S noL [] w' → (execOp a.eval o).run P w' = .ok (.value v) w' := by
  obtain ⟨dst, op, type, pos, after, guard⟩ := o
  have ev := fun x => ev_rel (S := S) (L := L) (t := t) (a := a) ht x
  unfold earlyV at h
  split at h
  · rename_i x hop
    simp only at hop; subst hop
    split at h
    · rename_i z he
      cases h
      have := ev x
      rw [he] at this
      exact ⟨_, this, fun w' _ => by simp [execOp]⟩
    · cases h
  · rename_i x hop
    simp only at hop; subst hop
    split at h
    · rename_i z he
      cases h
      have := ev x
      rw [he] at this
      exact ⟨_, this, fun w' _ => by simp [execOp]⟩
    · cases h
  · rename_i ty x hop
    simp only at hop; subst hop
    split at h
    · rename_i l he
      have hx := ev x
      rw [he] at hx
      obtain ⟨m, y', h1, h2, h3⟩ := loadP_sound h
      obtain ⟨b, o, e1, h4⟩ := hx
      obtain ⟨cs, h5, h6⟩ := RPm_range (RPm_take h4 m)
      obtain ⟨u, h7, h8⟩ := h3 S L cs h5
      split at h2
      · cases h2
        refine ⟨u, h8, fun w' hi' => ?_⟩
        simp only [execOp, e1]
        exact run_v (by simpa [Instr.loadAt, Instr.sureAddr] using h7.runs fun j v hj => (hi'.sta _ _ _ (h6 j v hj)).1)
      · cases h2
    · cases h
  · rename_i ty x i hop
    simp only at hop; subst hop
    split at h
    · rename_i l k j he hj
      split at h
      · rename_i n e sz hu hsz
        split at h
        · rename_i hc
          cases h
          have hx := ev x
          have hj' := ev i
          rw [he] at hx
          rw [hj] at hj'
          obtain ⟨b, o, e1, h4⟩ := hx
          have e2 : a.eval i = .int k j := hj'
          have : ∃ inf, P.info? e = some inf ∧ inf.size = sz := by
            simp only [elemSz, elemT, hu] at hsz
            cases hs : sizeT P e with
            | none => simp [hs] at hsz
            | some m =>
              obtain ⟨inf, g1, g2⟩ := sizeT_some hs
              cases m with
              | zero => simp [hs] at hsz
              | succ m => simp [hs] at hsz; exact ⟨inf, g1, by omega⟩
          obtain ⟨inf, g1, rfl⟩ := this
          refine ⟨.pointer (some ((⟨b, o, none⟩ : Addr).add (j.toNat * inf.size))), ?_, fun w' _ => ?_⟩
          · rw [Addr_add]
            exact ⟨_, _, rfl, RPm_drop h4 _⟩
          · simp only [execOp, e1, e2]
            exact run_v (by simp [Instr.indexAt, asIntOf, run_underlying hu, sizeOf, typeInfo, g1, hc.1, hc.2, Instr.sureAddr])
        · cases h
      · cases h
    · cases h
  · cases h
theorem cut_inv (hi : Inv S L H w) {bs : List Nat} {k : IV → IV} (hp : ∀ x : PV, k (.p x) = .p x) (hk : ∀ x v, RI S L x v → RI (Sf S L w bs) (cutL L bs) (k x) v) : Inv (Sf S L w bs) (cutL L bs) (deadH bs 0 (mapH k H)) w := by
  refine ⟨?_, ?_, ?_, ?_, ?_⟩
  · intro b q' hk'
    rw [deadH_get, getElem?_mapH] at hk'
    cases hq : H[b]? with
    | none => rw [hq] at hk'; cases hk'
    | some q =>
      rw [hq] at hk'
      simp only [Option.map_some, Option.some.injEq, Nat.zero_add] at hk'
      cases hb : bs.contains b with
      | true => rw [hb] at hk'; exact .inl (by simpa using hk'.symm)
      | false =>
        rw [hb] at hk'
        simp only [Bool.false_eq_true, if_false] at hk'
        subst hk'
        rcases hi.blk b q hq with rfl | ⟨lo, h1, h2⟩
        · exact .inl rfl
        · exact .inr ⟨lo, cutL_of hb h1, h2.mapped hp (fun _ => rfl) hk⟩
  · intro b hb
    rw [deadH_len, length_mapH] at hb
    unfold cutL
    rw [hi.out b hb]
    split <;> rfl
  · intro i j lo lo' h1 h2 h0 h0' hij
    exact hi.inj i j lo lo' (cutL_some h1).2 (cutL_some h2).2 h0 h0' hij
  · intro i lo h1 h0
    exact hi.inh i lo (cutL_some h1).2 h0
  · rintro b o v (hs | ⟨c, hc, lo, e1, e2, e3, e4, e5, e6⟩)
    · obtain ⟨k1, k2, k3, k4⟩ := hi.sta b o v hs
      exact ⟨k1, k2, k3, fun i lo h1 h0 => k4 i lo (cutL_some h1).2 h0⟩
    · refine ⟨e4, e5, e6, fun i lo' h1 h0 => ?_⟩
      obtain ⟨q1, q2⟩ := cutL_some h1
      rw [← e3]
      exact hi.inj i c lo' lo q2 e1 h0 e2 fun e => by subst e; rw [show bs.contains i = true by simpa using hc] at q1; cases q1
/-! ### The plan -/
def noPan (Q : Exit → Act → World → Prop) : Exit → Act → World → Prop := fun e a w => match e with
  | .panic _ => False
  | e => Q e a w
def heldW (S1 : Mem) : World → Prop := fun w' => Inv S1 noL [] w'
theorem held_of {S1 S' : Mem} {L' : Locs} {H' : Hp} {w' : World} (hi : Inv S' L' H' w') (hs : ∀ b o v, S1 b o v → S' b o v) : heldW S1 w' :=
  ⟨(fun b k h => by simp at h), (fun _ _ => rfl), (fun i j a b h => by cases h), (fun i a h => by cases h), fun b o v h => by
    obtain ⟨h1, h2, h3, _⟩ := hi.sta b o v (hs b o v h)
    exact ⟨h1, h2, h3, fun i a h => by cases h⟩⟩
theorem rest_go {T : Tab} {S1 : Mem} {L1 : Locs} {w1 : World} (hg : Good T S1 L1 w1) (hcp : CallsOK E T m)
    (hQ : ∀ S' L' t' H' a' w', At 0 S1 L1 w1 ds S' L' t' H' a' w' → K t' H' = some out → Q .normal a' w') :
    ∀ (fuel : Nat) (ls : Array Bool) (r : List Nat), planR ops fuel ls = some r → ∀ (t : List IV) (H : Hp) (S' : Mem) (L' : Locs) (a : Act) (w : World), opsK E m ops.toList (opsAt ops r) t H K = some out → At 0 S1 L1 w1 ds S' L' t H a w →
      ∀ fuel', r.length ≤ fuel' → wpAnyH E.P .any ops (noPan Q) (heldW S1) fuel' ls a w := by
  intro fuel
  induction fuel with
  | zero =>
    intro ls r hr t H S' L' a w hk hat fuel' _
    simp only [planR] at hr
    split at hr
    · rename_i hrd
      cases hr
      exact wpAnyH_done (Q := noPan Q) hrd (hQ _ _ _ _ _ _ hat hk) fuel'
    · cases hr
  | succ fuel ih =>
    intro ls r hr t H S' L' a w hk hat fuel' hf
    simp only [planR] at hr
    split at hr
    · rename_i hrd
      cases hr
      exact wpAnyH_done (Q := noPan Q) hrd (hQ _ _ _ _ _ _ hat hk) fuel'
    · rename_i i hrd
      split at hr
      · rename_i r' hr'
        cases hr
        cases fuel' with
        | zero => simp at hf
        | succ fuel' =>
          refine wpAnyH_all hrd (by simp) fun i' hi' => ?_
          have : i' = i := by simpa using hi'
          subst this
          obtain ⟨_, o, ho, _⟩ := mem_ready.1 (show i' ∈ Region.ready .any ops ls by rw [hrd]; simp)
          simp only [opsAt, ho] at hk
          have next : ∀ S'' L'' t' H' a' w', At 0 S1 L1 w1 ds S'' L'' t' H' a' w' → opsK E m ops.toList (opsAt ops r') t' H' K = some out → heldW S1 w' ∧ wpAnyH E.P .any ops (noPan Q) (heldW S1) fuel' (ls.setIfInBounds i' true) a' w' := fun S'' L'' t' H' a' w' hat' hk' =>
            ⟨held_of hat'.ext.inv hat'.ext.mem, ih _ r' hr' t' H' S'' L'' a' w' hk' hat' fuel' (by simpa using hf)⟩
          unfold wpOp
          rw [ho]
          simp only
          rcases opsK_cons hk with ⟨h1, h2⟩ | ⟨h1, h2⟩
          · rw [if_pos (wantedT_sound h1 hat.tmps)]
            exact .inl (stepK_sound hcp h2 hg hat next)
          · rw [if_neg (by rw [wantedT_sound h1 hat.tmps]; simp)]
            exact next _ _ _ _ _ _ (hat.skip o.dst) h2
      · cases hr
    · cases hr
theorem early_go {S1 : Mem} {L1 : Locs} {w1 : World} (hsel : Region.noSelect ops = true) {H : Hp} {w : World} {L' : Locs} {K1 : List IV → Option ρ} {fr : Nat} :
    ∀ (js : List Nat) (ls ls' : Array Bool) (e : List Nat), planE ops js ls = (e, ls') → ∀ (t : List IV) (a : Act), earlyK E.P (opsAt ops e) t K1 = some out → At 0 S1 L1 w1 ds S1 L' t H a w →
      (∀ t' a', At 0 S1 L1 w1 ds S1 L' t' H a' w → K1 t' = some out → wpAnyH E.P .any ops (noPan Q) (heldW S1) fr ls' a' w) → wpAnyH E.P .any ops (noPan Q) (heldW S1) (e.length + fr) ls a w := by
  intro js
  induction js with
  | nil =>
    intro ls ls' e he t a hk hat hfin
    simp only [planE, Prod.mk.injEq] at he
    obtain ⟨rfl, rfl⟩ := he
    simpa using hfin t a hat hk
  | cons j js ih =>
    intro ls ls' e he t a hk hat hfin
    simp only [planE] at he
    split at he
    · rename_i o ho
      cases hc : (earlyO o && (Region.ready .any ops ls).contains j && Region.free .any ops ls j) with
      | false => rw [hc] at he; exact ih ls ls' e he t a hk hat hfin
      | true =>
        rw [hc] at he
        simp only [cond_true, Prod.mk.injEq] at he
        obtain ⟨rfl, rfl⟩ := he
        simp only [Bool.and_eq_true] at hc
        obtain ⟨⟨h1, h2⟩, h3⟩ := hc
        simp only [opsAt, ho, earlyK] at hk
        split at hk
        · rename_i y hy
          have hheld := held_of hat.ext.inv (S1 := S1) fun _ _ _ h => h
          obtain ⟨v, g1, g2⟩ := early_yields hat.tmps hheld hy
          have hgd : o.guard = none := by
            unfold earlyO at h1
            simp only [Bool.and_eq_true] at h1
            simpa using h1.1
          have hw : Region.wanted o (yielded ops a.tmps) = true := by unfold Region.wanted; rw [hgd]
          rw [List.length_cons, show ((planE ops js (ls.setIfInBounds j true)).1.length + 1 + fr) = ((planE ops js (ls.setIfInBounds j true)).1.length + fr) + 1 by omega]
          refine wpAnyH_take ho hsel h3 h2 (fun c a w h => h.elim) (.inl ⟨hw, fun w' hw' => g2 w' hw'⟩) hheld ?_
          exact ih _ _ _ rfl _ _ hk ⟨hat.ext, put_rel hat.tmps o.dst g1, by rw [put_defers', hat.defers]⟩ hfin
        · cases hk
    · exact ih ls ls' e he t a hk hat hfin
/-- A region gone through by plan. -/
theorem plan_sound {T : Tab} (hg : Good T S0 L0 w0) (hm : E.P.follows .mixedOrders = true) (hcp : CallsOK E T m) {id : Nat} {a : Act} (hn : n0 = 0) (h : planK E m ops t H K = some out) (hat : At n0 S0 L0 w0 ds S L t H a w)
    (hQ : ∀ S' L' t' H' a' w', At n0 S0 L0 w0 ds S' L' t' H' a' w' → K t' H' = some out → Q .normal a' w') : (Code.region id ops true).wp E.P Q a w := by
  subst hn
  have hi := hat.ext.inv
  unfold planK at h
  split at h
  · rename_i e r hpl
    have hi1 : Inv (Sf S L w (pcs 0 H)) (cutL L (pcs 0 H)) (deadH (pcs 0 H) 0 (mapH (frzB H (pcs 0 H)) H)) w := cut_inv hi (fun _ => rfl) (frzB_rel hi)
    have hat1 : At 0 S0 L0 w0 ds (Sf S L w (pcs 0 H)) (cutL L (pcs 0 H)) (killL (mapI (frzB H (pcs 0 H))) t) (deadH (pcs 0 H) 0 (mapH (frzB H (pcs 0 H)) H)) a w := by
      refine ⟨hat.ext.re hi1 (fun b o u h => .inl h) ?_ (fun i lo h1 h0 => ⟨i, lo, (cutL_some h1).2, h0, rfl⟩) (fun i lo h _ _ => absurd h (Nat.not_lt_zero _)) (Nat.zero_le _), RIs_of _ (RI_mapI _ (frzB_rel hi)) hat.tmps, hat.defers⟩
      rintro b o u (h | ⟨c, _, lo, e1, e2, e3, _⟩)
      · exact .inl h
      · exact .inr ⟨c, lo, e1, e2, e3⟩
    have hbase : At 0 (Sf S L w (pcs 0 H)) (cutL L (pcs 0 H)) w ds (Sf S L w (pcs 0 H)) (cutL L (pcs 0 H)) (killL (mapI (frzB H (pcs 0 H))) t) (deadH (pcs 0 H) 0 (mapH (frzB H (pcs 0 H)) H)) a w :=
      ⟨Ext.refl hi1 (Nat.zero_le _), hat1.tmps, hat1.defers⟩
    have hg1 := hg.ext hat1.ext
    have hQ1 : ∀ S' L' t' H' a' w', At 0 (Sf S L w (pcs 0 H)) (cutL L (pcs 0 H)) w ds S' L' t' H' a' w' → K t' H' = some out → Q .normal a' w' := fun S' L' t' H' a' w' hat' hk =>
      hQ S' L' t' H' a' w' ⟨hat1.ext.trans hat'.ext (Nat.zero_le _), hat'.tmps, hat'.defers⟩ hk
    unfold planO at hpl
    generalize hE : planE ops (List.range ops.size) (Array.replicate ops.size false) = q at hpl
    obtain ⟨e0, ls⟩ := q
    simp only at hpl
    split at hpl
    · rename_i r0 hr0
      cases hsel' : (Region.noSelect ops && decide (e0.length + r0.length ≤ ops.size)) with
      | false => rw [hsel'] at hpl; cases hpl
      | true =>
        rw [hsel'] at hpl
        simp only [cond_true, Option.some.injEq, Prod.mk.injEq] at hpl
        obtain ⟨rfl, rfl⟩ := hpl
        simp only [Bool.and_eq_true, decide_eq_true_eq] at hsel'
        obtain ⟨hsel, hle⟩ := hsel'
        refine wp_mono (Q := noPan Q) ?_ (fun e a w he => by cases e <;> first | exact he | exact he.elim)
        refine wp_region_held (S := heldW (Sf S L w (pcs 0 H))) hm ?_
        obtain ⟨fr, hfr⟩ : ∃ fr, ops.size = e0.length + fr := ⟨ops.size - e0.length, by omega⟩
        have key := early_go (Q := Q) (fr := fr) hsel (List.range ops.size) (Array.replicate ops.size false) ls e0 hE _ _ h hbase.drew fun t' a' hat' hk =>
          rest_go hg1 hcp hQ1 ops.size ls r0 hr0 _ _ _ _ _ _ hk hat' fr (by omega)
        rw [← hfr] at key
        exact key
    · cases hpl
  · cases h
end
end Go.Proofs.YtfaofikhabccoaaGreatDoor.Jv
