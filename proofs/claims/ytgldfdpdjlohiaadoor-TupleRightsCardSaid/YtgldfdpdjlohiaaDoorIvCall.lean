/- Calls of the ideal machine are calls of the model; conditions: none. -/
import Derived.Test.YtgldfdpdjlohiaaDoorIvOps7
namespace Go.Proofs.YtgldfdpdjlohiaaDoor.Iv
open Go Go.RowKit
section
variable {P : Program} {S : Mem} {L : Locs} {H : Hp} {w : World} {t : List IV} {vs : List Value} {out : IV × Hp}

/-! ### What turns no more -/
/-- All that one's own blocks hold, besides what never turns. -/
def froz (S : Mem) (L : Locs) (w : World) : Mem := fun b o v => S b o v ∨ (Own L b ∧ b < w.heap.size ∧ w.cell? ⟨b, o, none⟩ = some v ∧ v.oneCell' = true)
def noL : Locs := fun _ => none
theorem froz_inv (hi : Inv S L H w) : Inv (froz S L w) noL [] w := by
  refine ⟨(fun b k h => by simp at h), (fun _ _ => rfl), (fun i j a b h => by cases h), (fun i a h => by cases h), fun b o v h => ?_⟩
  rcases h with h | ⟨_, h1, h2, h3⟩
  · obtain ⟨h1, h2, h3, _⟩ := hi.sta b o v h
    exact ⟨h1, h2, h3, fun i a h => by cases h⟩
  · exact ⟨h2, h3, h1, fun i a h => by cases h⟩
theorem froz_sub (b o : Nat) (v : Value) (h : S b o v) : froz S L w b o v := .inl h
theorem RPm_of {S' : Mem} {l : List PV} {cs : List Value} {b o : Nat} (h : RPs S' l cs) (k : ∀ j v, cs[j]? = some v → S' b (o + j) v) : RPm S' l b o := by
  induction l generalizing cs o with
  | nil => simp [RPm]
  | cons x l ih =>
    obtain ⟨v, r, rfl, h1, h2⟩ := h
    exact ⟨⟨v, k 0 v rfl, h1⟩, ih h2 fun j u hj => by have := k (j + 1) u (by simpa using hj); rwa [show o + 1 + j = o + (j + 1) from by omega]⟩
theorem freezeL_sound {fz : IV → Option PV} {S' : Mem} (hf : ∀ x y v, fz x = some y → RI S L x v → RP S' y v) {l : List IV} {r : List PV} (h : freezeL fz l = some r) {cs : List Value} (hl : RIs S L l cs) : RPs S' r cs := by
  induction l generalizing r cs with
  | nil => cases h; simpa [RPs, RIs] using hl
  | cons x l ih =>
    obtain ⟨v, q, rfl, h1, h2⟩ := hl
    simp only [freezeL] at h
    split at h
    · rename_i y hy
      split at h
      · rename_i r' hr
        cases h
        exact RPs_cons.2 ⟨hf _ _ _ hy h1, ih hr h2⟩
      · cases h
    · cases h
theorem freezeL_len {fz : IV → Option PV} {l : List IV} {r : List PV} (h : freezeL fz l = some r) : r.length = l.length := by
  induction l generalizing r with
  | nil => cases h; rfl
  | cons x l ih =>
    simp only [freezeL] at h
    split at h
    · split at h
      · rename_i r' hr; cases h; simp [ih hr]
      · cases h
    · cases h
theorem blk_frozen {lo : Lo} {i : Nat} {l : List IV} (hL : L i = some lo) (hi : Inv S L H w) (h : BRc S L w lo l) : ∃ cs : List Value, RIs S L l (cs.take lo.len) ∧ l.length = lo.len ∧ lo.len ≤ cs.length ∧ ∀ j v, cs[j]? = some v → froz S L w lo.blk j v := by
  obtain ⟨cs, f1, f2, f3, f4, f5, f6, f7⟩ := h
  refine ⟨cs, f7, f2, by omega, fun j v hj => .inr ⟨⟨i, lo, hL, rfl⟩, hi.inh _ _ hL, ?_, f6 v (List.mem_of_getElem? hj)⟩⟩
  have := f4 j v hj
  rwa [Nat.zero_add] at this
theorem freeze_sound (hi : Inv S L H w) (k : Nat) : ∀ (x : IV) (y : PV) (v : Value), freeze H k x = some y → RI S L x v → RP (froz S L w) y v := by
  have hp : ∀ (x : PV) (v : Value), RP S x v → RP (froz S L w) x v := fun x v h => RP.mono (fun b o v h => froz_sub b o v h) h
  induction k with
  | zero =>
    intro x y v h hx
    cases x <;> simp only [freeze] at h <;> try (cases h; done)
    cases h; exact hp _ _ hx
  | succ k ih =>
    intro x y v h hx
    have cell : ∀ (b : Nat) (lo : Lo) (q : Blk), L b = some lo → H[b]? = some q → ∀ l, blkCells q = some l → BRc S L w lo l := by
      intro b lo q hL hq l hl
      rcases hi.blk b q hq with rfl | ⟨lo', e1, e2⟩
      · cases hl
      · rw [hL] at e1; cases e1
        exact (BR_cells hl).1 e2
    have part : ∀ (cs : List Value) (l : List PV) (b : Nat) (n off m : Nat), RPs (froz S L w) l (cs.take n) → (∀ j v, cs[j]? = some v → froz S L w b j v) → RPm (froz S L w) ((l.drop off).take m) b off := by
      intro cs l b n off m h1 h2
      refine RPm_of (cs := ((cs.take n).drop off).take m) ((h1.drop off).take m) fun j v hj => h2 _ _ ?_
      rw [List.getElem?_take] at hj
      split at hj
      · rw [List.getElem?_drop, List.getElem?_take] at hj
        split at hj
        · exact hj
        · cases hj
      · cases hj
    cases x with
    | p x => simp only [freeze] at h; cases h; exact hp _ _ hx
    | agg l =>
      obtain ⟨cs, rfl, h2⟩ := hx
      simp only [freeze] at h
      split at h
      · rename_i r hr; cases h; exact mkAggP_rel (freezeL_sound ih hr h2)
      · cases h
    | tup l =>
      obtain ⟨cs, rfl, h2⟩ := hx
      simp only [freeze] at h
      split at h
      · rename_i r hr; cases h; exact mkTupP_rel (freezeL_sound ih hr h2)
      · cases h
    | row b sz n =>
      obtain ⟨lo, e1, e2, cap, rfl, e3, e4, e5, e6⟩ := hx
      have fin : ∀ (l : List PV) (cs : List Value), l.length = lo.len → RPs (froz S L w) l (cs.take lo.len) → (∀ j v, cs[j]? = some v → froz S L w lo.blk j v) → RP (froz S L w) (.ro n l) (.slice (some ⟨lo.blk, 0, none⟩) n cap) := by
        intro l cs h1 h2 h3
        refine ⟨_, _, rfl, e5, ?_⟩
        by_cases hn : n = 0
        · left
          refine ⟨hn, List.eq_nil_of_length_eq_zero ?_⟩
          rw [h1, ← e3, hn, Nat.zero_mul]
        · right
          have := part cs l lo.blk lo.len 0 l.length h2 h3
          simp only [List.drop_zero, List.take_length] at this
          exact ⟨_, _, rfl, this⟩
      simp only [freeze] at h
      split at h
      · rename_i l hb
        cases h
        obtain ⟨cs, g1, g2, g3, g4⟩ := blk_frozen e1 hi (cell b lo _ e1 hb _ rfl)
        exact fin l cs (by simpa using g2) ((RIs_mapP.1 g1).mono fun b o v h => froz_sub b o v h) g4
      · rename_i l hb
        split at h
        · rename_i r hr
          cases h
          obtain ⟨cs, g1, g2, g3, g4⟩ := blk_frozen e1 hi (cell b lo _ e1 hb _ rfl)
          exact fin r cs (by rw [freezeL_len hr]; exact g2) (freezeL_sound ih hr g1) g4
        · cases h
      · cases h
    | rw b sz off n =>
      obtain ⟨lo, e1, e2, ad, cap, rfl, e3, e4, e5, e6⟩ := hx
      have fin : ∀ (l : List PV), (n ≠ 0 → RPm (froz S L w) l lo.blk off) → (n = 0 → l = []) → RP (froz S L w) (.ro n l) (.slice ad n cap) := by
        intro l h1 h2
        refine ⟨_, _, rfl, e3, ?_⟩
        by_cases hn : n = 0
        · exact .inl ⟨hn, h2 hn⟩
        · right
          rcases e6 with e6 | rfl
          · exact absurd e6 hn
          · exact ⟨_, _, rfl, h1 hn⟩
      simp only [freeze] at h
      split at h
      · rename_i l hb
        cases h
        obtain ⟨cs, g1, g2, g3, g4⟩ := blk_frozen e1 hi (cell b lo _ e1 hb _ rfl)
        exact fin _ (fun _ => part cs l lo.blk lo.len off (n * sz) ((RIs_mapP.1 g1).mono fun b o v h => froz_sub b o v h) g4) fun hn => by simp [sub, hn]
      · rename_i l hb
        split at h
        · rename_i r hr
          cases h
          obtain ⟨cs, g1, g2, g3, g4⟩ := blk_frozen e1 hi (cell b lo _ e1 hb _ rfl)
          have h5 := freezeL_sound ih hr ((g1.drop off).take (n * sz))
          refine fin _ (fun _ => RPm_of h5 fun j v hj => ?_) fun hn => List.eq_nil_of_length_eq_zero (by rw [freezeL_len hr]; simp [sub, hn])
          refine g4 _ _ ?_
          rw [List.getElem?_take] at hj
          split at hj
          · rw [List.getElem?_drop, List.getElem?_take] at hj
            split at hj
            · exact hj
            · cases hj
          · cases hj
        · cases h
      · cases h
    | ptr b off =>
      obtain ⟨lo, e1, e2, rfl⟩ := hx
      simp only [freeze] at h
      split at h
      · rename_i l hb
        cases h
        obtain ⟨cs, g1, g2, g3, g4⟩ := blk_frozen e1 hi (cell b lo _ e1 hb _ rfl)
        have := part cs l lo.blk lo.len off (l.drop off).length ((RIs_mapP.1 g1).mono fun b o v h => froz_sub b o v h) g4
        rw [List.take_length] at this
        exact ⟨_, _, rfl, this⟩
      · rename_i l hb
        split at h
        · rename_i r hr
          cases h
          obtain ⟨cs, g1, g2, g3, g4⟩ := blk_frozen e1 hi (cell b lo _ e1 hb _ rfl)
          have h5 := freezeL_sound ih hr (g1.drop off)
          refine ⟨_, _, rfl, RPm_of h5 fun j v hj => g4 _ _ ?_⟩
          rw [List.getElem?_drop, List.getElem?_take] at hj
          split at hj
          · exact hj
          · cases hj
        · cases h
      · cases h
    | eptr b off => cases h
    | fn f c => cases h
    | it b => cases h
    | undef => cases h

/-! ### Results -/
theorem flat_vals {cs : List CK} (hf : flatK cs = true) {f : List PV → R} {xs : List PV} (h : elimT cs xs (curryK cs f) = some out) : ∃ us : List Value, f (us.map .v) = some out ∧ xs = us.map .v := by
  induction cs generalizing f xs with
  | nil =>
    cases xs with
    | nil => exact ⟨[], h, rfl⟩
    | cons x xs => simp only [elimT] at h; cases h
  | cons c cs ih =>
    cases xs with
    | nil => cases c <;> simp only [elimT] at h <;> cases h
    | cons x xs =>
      have done : ∀ y : Value, x = .v y → flatK cs = true → (elimT cs xs (curryK cs fun xs => f (.v y :: xs)) = some out) → ∃ us : List Value, f (us.map .v) = some out ∧ x :: xs = us.map .v := by
        intro y hy hf hh
        obtain ⟨us, h1, rfl⟩ := ih hf hh
        exact ⟨y :: us, h1, by rw [hy]; rfl⟩
      cases c with
      | int k =>
        simp only [elimT, curryK] at h
        split at h
        · rename_i n hn
          cases x <;> simp only [asI] at hn <;> try (cases hn; done)
          rename_i y
          cases y <;> simp only at hn <;> try (cases hn; done)
          split at hn
          · rename_i hk; subst hk; cases hn; exact done _ rfl hf h
          · cases hn
        · cases h
      | bool =>
        simp only [elimT, curryK] at h
        split at h
        · rename_i n hn
          cases x <;> simp only [asB] at hn <;> try (cases hn; done)
          rename_i y
          cases y <;> simp only at hn <;> cases hn
          exact done _ rfl hf h
        · cases h
      | str =>
        simp only [elimT, curryK] at h
        split at h
        · rename_i n hn
          cases x <;> simp only [asS] at hn <;> try (cases hn; done)
          rename_i y
          cases y <;> simp only at hn <;> cases hn
          exact done _ rfl hf h
        · cases h
      | any => cases hf
      | sl => cases hf
/-- The components of a result. -/
def comps (ts : List TypeId) (v : Value) : Option (List Value) := match isOne ts with
  | true => some [v]
  | false => match v with | .tuple vs => some vs.toList | _ => none
theorem resIn_rel {ts : List TypeId} {p : PV} {xs : List PV} (h : resIn ts p = some xs) {v : Value} (hp : RP S p v) : ∃ cs, comps ts v = some cs ∧ RPs S xs cs := by
  unfold resIn at h
  unfold comps
  cases h1 : isOne ts with
  | true => rw [h1] at h; cases h; exact ⟨[v], rfl, RPs_cons.2 ⟨hp, by simp [RPs]⟩⟩
  | false =>
    rw [h1] at h
    simp only [tupP] at h
    split at h
    · cases h; simp only [RP] at hp; subst hp; exact ⟨_, rfl, RPs_mapV _⟩
    · cases h; obtain ⟨cs, rfl, h2⟩ := hp; exact ⟨_, rfl, h2⟩
    · cases h
theorem comps_out {ts : List TypeId} {l : List IV} {v : Value} {cs : List Value} (hc : comps ts v = some cs) (hl : RIs S L l cs) (hn : l.length = ts.length) : RI S L (outI l) v := by
  unfold comps at hc
  cases h1 : isOne ts with
  | true =>
    rw [h1] at hc; cases hc
    obtain ⟨u, r, e, h2, h3⟩ : ∃ u r, l = [u] ∧ RI S L u v ∧ r = () := by
      cases l with
      | nil => simp [RIs] at hl
      | cons x l =>
        obtain ⟨v', r', e, h2, h3⟩ := hl
        cases e
        cases l with
        | nil => exact ⟨x, (), rfl, h2, rfl⟩
        | cons y l => simp [RIs] at h3
    subst e
    exact h2
  | false =>
    rw [h1] at hc
    simp only at hc
    split at hc
    · rename_i us
      cases hc
      have hne : l.length ≠ 1 := by
        rw [hn]
        intro he
        obtain ⟨a, rfl⟩ := List.length_eq_one_iff.1 he
        cases h1
      unfold outI
      split
      · simp at hne
      · exact mkTup_rel hl
    · cases hc
theorem spread_gather {ts : List TypeId} {xs ys : List PV} (h : spread P ts xs = some ys) {cs : List Value} (hx : RPs S xs cs) : ∃ fs : List Value, RPs S ys fs ∧ xs.length = ts.length ∧ ∀ (S' : Mem) (zs : List PV), RPs S' zs fs → RPs S' (gather P ts zs) cs ∧ (gather P ts zs).length = ts.length := by
  induction ts generalizing xs ys cs with
  | nil =>
    cases xs with
    | nil => cases h; rw [RPs_nil] at hx; subst hx; exact ⟨[], by simp [RPs], rfl, fun S' zs hz => ⟨by simp [gather, RPs], rfl⟩⟩
    | cons x xs => cases h
  | cons ty ts ih =>
    cases xs with
    | nil => cases h
    | cons x xs =>
      obtain ⟨v, r, rfl, h1, h2⟩ := hx
      simp only [spread] at h
      split at h
      · rename_i hagg
        split at h
        · rename_i hc
          split at h
          · rename_i r' hr
            cases h
            obtain ⟨fs, g1, g2, g3⟩ := ih hr h2
            have hv : ∃ us : List Value, v = .agg ⟨us⟩ ∧ RPs S (cellsP x) us := by
              cases x with
              | v u =>
                simp only [RP] at h1
                subst h1
                cases v <;> simp only [isAggP] at hc <;> try (cases hc.1; done)
                rename_i us; exact ⟨us.toList, rfl, RPs_mapV _⟩
              | agg l => exact h1
              | _ => cases hc.1
            obtain ⟨us, rfl, h3⟩ := hv
            have hul := h3.length
            refine ⟨us ++ fs, h3.append g1, by simp [g2], fun S' zs hz => ?_⟩
            have e1 : (us ++ fs).take (cks P 8 ty).length = us := by rw [List.take_append_of_le_length (by omega), List.take_of_length_le (by omega)]
            have e2 : (us ++ fs).drop (cks P 8 ty).length = fs := by rw [← hc.2, ← hul]; simp
            have z1 := hz.take (cks P 8 ty).length
            have z2 := hz.drop (cks P 8 ty).length
            rw [e1] at z1
            rw [e2] at z2
            obtain ⟨g4, g5⟩ := g3 S' _ z2
            simp only [gather, hagg]
            exact ⟨RPs_cons.2 ⟨mkAggP_rel z1, g4⟩, by simp [g5]⟩
          · cases h
        · cases h
      · rename_i hagg
        split at h
        · split at h
          · rename_i r' hr
            cases h
            obtain ⟨fs, g1, g2, g3⟩ := ih hr h2
            refine ⟨v :: fs, RPs_cons.2 ⟨h1, g1⟩, by simp [g2], fun S' zs hz => ?_⟩
            cases zs with
            | nil => simp [RPs] at hz
            | cons z zs =>
              obtain ⟨z1, z2⟩ := RPs_cons.1 hz
              obtain ⟨g4, g5⟩ := g3 S' _ z2
              simp only [gather, hagg]
              exact ⟨RPs_cons.2 ⟨z1, g4⟩, by simp [g5]⟩
          · cases h
        · cases h
end
end Go.Proofs.YtgldfdpdjlohiaaDoor.Iv
