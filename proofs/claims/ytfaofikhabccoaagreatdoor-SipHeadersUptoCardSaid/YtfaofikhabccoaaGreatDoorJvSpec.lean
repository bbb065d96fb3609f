/- A state that is told by variables: what it is read out of, it stands for; conditions: none. -/
import Derived.Test.YtfaofikhabccoaaGreatDoorJvCut
namespace Go.Proofs.YtfaofikhabccoaaGreatDoor.Jv
open Go Go.RowKit
set_option linter.unusedVariables false
set_option linter.unusedSimpArgs false
section
variable {ρ : Type} {S : Mem} {L : Locs} {H : Hp} {w : World} {t : List IV} {vs : List Value} {out : ρ}

/-- What never turns, where some rows turn no more. -/
def Sf (S : Mem) (L : Locs) (w : World) (fz : List Nat) : Mem := fun b o v => S b o v ∨ ∃ c ∈ fz, ∃ lo, L c = some lo ∧ lo.size ≠ 0 ∧ lo.blk = b ∧ w.cell? ⟨b, o, none⟩ = some v ∧ v.oneCell' = true ∧ b < w.heap.size
/-- Where the blocks lie that stand for others. -/
def Lf (L : Locs) (g : G) : Locs := fun i => match look i g with
  | some (some b) => L b
  | some none => some loNil
  | none => none
structure Le (d d' : Dc) : Prop where
  g : ∀ i c, look i d.g = some c → look i d'.g = some c
  fz : ∀ b, b ∈ d.fz → b ∈ d'.fz
theorem Le.refl (d : Dc) : Le d d := ⟨fun _ _ h => h, fun _ h => h⟩
theorem Le.trans {a b c : Dc} (h : Le a b) (k : Le b c) : Le a c := ⟨fun i x q => k.g _ _ (h.g i x q), fun x q => k.fz x (h.fz x q)⟩
theorem Sf_sub (fz : List Nat) (b o : Nat) (v : Value) (h : S b o v) : Sf S L w fz b o v := .inl h
theorem bindG_some {i : Nat} {b : Option Nat} {d : Dc} {K : Dc → Option ρ} (h : bindG i b d K = some out) : ∃ d', K d' = some out ∧ Le d d' ∧ look i d'.g = some b := by
  unfold bindG at h
  split at h
  · rename_i hl
    refine ⟨_, h, ⟨fun j c hj => ?_, fun _ h => h⟩, by simp [look]⟩
    simp only [look]
    split
    · rename_i e; subst e; rw [hl] at hj; cases hj
    · exact hj
  · rename_i c hl
    split at h
    · rename_i e; subst e; exact ⟨d, h, Le.refl d, hl⟩
    · cases h
theorem Lf_some {g : G} {i b : Nat} (h : look i g = some (some b)) : Lf L g i = L b := by unfold Lf; rw [h]
theorem Lf_none {g : G} {i : Nat} (h : look i g = some none) : Lf L g i = some loNil := by unfold Lf; rw [h]

/-! ### Slots -/
theorem row_cells (hi : Inv S L H w) {b sz : Nat} {q : Ty} {l : List (T q)} {v : Value} (hx : RI S L (.row b sz) v) (hb : H[b]? = some (.tc q l)) (hs : sz = sizeTy q) {fz : List Nat} (hf : b ∈ fz) :
    RP (Sf S L w fz) (.sl q l) v := by
  subst hs
  obtain ⟨lo, e1, e2, a, n, cap, rfl, e3, e4, e5, e6, e9⟩ := hx
  rcases hi.blk b _ hb with e | ⟨lo', e7, cs, f1, f2, f3, f4, f5, f6, f7⟩
  · cases e
  rw [e1] at e7; cases e7
  rw [List.length_map, cellsL_len, ← e3] at f2
  have hn : n = l.length := (Nat.eq_of_mul_eq_mul_right (by omega) f2).symm
  subst hn
  refine RP_sl.2 ⟨a, cap, rfl, e5, ?_⟩
  cases l with
  | nil => exact .inl rfl
  | cons p l =>
    have hz : lo.size ≠ 0 := by
      have := sizeTy_pos q
      simp only [List.length_cons, Nat.add_mul, Nat.one_mul] at e3; omega
    rcases e9 with rfl | ⟨e9, _⟩
    · refine .inr ⟨_, _, rfl, RPm_of ((RIs_mapP.1 f7).mono fun b o v h => Sf_sub fz b o v h) fun j u hj => .inr ⟨b, hf, lo, e1, hz, rfl, ?_, f6 u (List.mem_of_mem_take (List.mem_of_getElem? hj)), hi.inh _ _ e1 hz⟩⟩
      have := rangeAt_take f4 lo.len j u hj
      rwa [Nat.zero_add] at this ⊢
    · exact absurd e9 hz
theorem rw_cells (hi : Inv S L H w) {b sz p m : Nat} {q : Ty} {l : List (T q)} {v : Value} (hx : RI S L (.rw b sz p m) v) (hb : H[b]? = some (.tc q l)) (hs : sz = sizeTy q) {fz : List Nat} (hf : b ∈ fz) :
    RP (Sf S L w fz) (.sl q ((l.drop p).take m)) v := by
  subst hs
  obtain ⟨lo, e1, e2, a, cap, rfl, e3, e4, e5, e6⟩ := hx
  rcases hi.blk b _ hb with e | ⟨lo', e7, cs, f1, f2, f3, f4, f5, f6, f7⟩
  · cases e
  rw [e1] at e7; cases e7
  rw [List.length_map, cellsL_len] at f2
  have hle : p + m ≤ l.length := Nat.le_of_mul_le_mul_right (by rw [f2]; exact e4) (by omega)
  have hlen : ((l.drop p).take m).length = m := by simp; omega
  have hrel : RPs S (cellsL q ((l.drop p).take m)) (((cs.take lo.len).drop (p * sizeTy q)).take (m * sizeTy q)) := by
    rw [cellsL_take, cellsL_drop]
    exact ((RIs_mapP.1 f7).drop _).take _
  refine RP_sl.2 ⟨a, cap, by rw [hlen], by rw [hlen]; exact e3, ?_⟩
  rcases e6 with rfl | rfl
  · exact .inl (by simp)
  · by_cases hm : m = 0
    · subst hm; exact .inl (by simp)
    · have hz : lo.size ≠ 0 := by
        have h1 : 0 < (p + m) * sizeTy q := Nat.mul_pos (by omega) (by omega)
        omega
      refine .inr ⟨_, _, rfl, RPm_of (hrel.mono fun b o v h => Sf_sub fz b o v h) fun j u hj => .inr ⟨b, hf, lo, e1, hz, rfl, ?_, f6 u (List.mem_of_mem_take (List.mem_of_mem_drop (List.mem_of_mem_take (List.mem_of_getElem? hj)))), hi.inh _ _ e1 hz⟩⟩
      have := rangeAt_take (rangeAt_drop (rangeAt_take f4 lo.len) (p * sizeTy q)) (m * sizeTy q) j u hj
      rwa [Nat.zero_add] at this
theorem ptr_cells (hi : Inv S L H w) {b off : Nat} {l : List PV} {v : Value} (hx : RI S L (.ptr b off) v) (hb : H[b]? = some (.pc l)) {fz : List Nat} (hf : b ∈ fz) :
    RP (Sf S L w fz) (.rop (l.drop off)) v := by
  obtain ⟨lo, e1, e2, rfl⟩ := hx
  rcases hi.blk b _ hb with e | ⟨lo', e7, cs, f1, f2, f3, f4, f5, f6, f7⟩
  · cases e
  rw [e1] at e7; cases e7
  refine ⟨_, _, rfl, RPm_of (cs := (cs.take lo.len).drop off) (((RIs_mapP.1 f7).mono fun b o v h => Sf_sub fz b o v h).drop off) fun j u hj => ?_⟩
  rw [List.getElem?_drop, List.getElem?_take] at hj
  split at hj
  · have hz : lo.size ≠ 0 := by have := (List.getElem?_eq_some_iff.1 hj).1; omega
    refine .inr ⟨b, hf, lo, e1, hz, rfl, ?_, f6 u (List.mem_of_getElem? hj), hi.inh _ _ e1 hz⟩
    have := f4 _ u hj
    rwa [Nat.zero_add] at this
  · cases hj
theorem frzK_sound (hi : Inv S L H w) {x : IV} {d : Dc} {K : PV → Dc → Option ρ} (h : frzK H x d K = some out) {v : Value} (hx : RI S L x v) :
    ∃ y d', K y d' = some out ∧ Le d d' ∧ ∀ dF : Dc, Le d' dF → RP (Sf S L w dF.fz) y v := by
  unfold frzK at h
  split at h
  · exact ⟨_, _, h, Le.refl d, fun dF _ => RP.mono (fun b o v h => Sf_sub _ b o v h) hx⟩
  · split at h
    · rename_i hb
      split at h
      · rename_i hs
        exact ⟨_, _, h, ⟨fun _ _ h => h, fun _ h => List.mem_cons_of_mem _ h⟩, fun dF hd => row_cells hi hx hb hs (hd.fz _ (List.mem_cons_self ..))⟩
      · cases h
    · cases h
  · split at h
    · rename_i hb
      split at h
      · rename_i hs
        exact ⟨_, _, h, ⟨fun _ _ h => h, fun _ h => List.mem_cons_of_mem _ h⟩, fun dF hd => rw_cells hi hx hb hs (hd.fz _ (List.mem_cons_self ..))⟩
      · cases h
    · cases h
  · rename_i b off
    split at h
    · rename_i l hb
      exact ⟨_, _, h, ⟨fun _ _ h => h, fun _ h => List.mem_cons_of_mem _ h⟩, fun dF hd => ptr_cells hi hx hb (hd.fz _ (List.mem_cons_self ..))⟩
    · cases h
  · cases h
theorem frzKL_sound (hi : Inv S L H w) : ∀ {l : List IV} {d : Dc} {K : List PV → Dc → Option ρ}, frzKL H l d K = some out → ∀ {cs : List Value}, RIs S L l cs →
    ∃ ys d', K ys d' = some out ∧ Le d d' ∧ ∀ dF : Dc, Le d' dF → RPs (Sf S L w dF.fz) ys cs
  | [], d, K, h, cs, hl => ⟨[], d, h, Le.refl d, fun _ _ => by simpa [RPs, RIs] using hl⟩
  | x :: l, d, K, h, cs, hl => by
    obtain ⟨v, r, rfl, h1, h2⟩ := hl
    simp only [frzKL] at h
    obtain ⟨y, d1, h3, h4, h5⟩ := frzK_sound hi h h1
    obtain ⟨ys, d2, h6, h7, h8⟩ := frzKL_sound hi h3 h2
    exact ⟨y :: ys, d2, h6, h4.trans h7, fun dF hd => RPs_cons.2 ⟨h5 dF (h7.trans hd), h8 dF hd⟩⟩
theorem decA_sound (hi : Inv S L H w) {a : SA} {x : IV} {d : Dc} {K : List Dyn → Dc → Option ρ} (h : decA H a x d K = some out) {v : Value} (hx : RI S L x v) :
    ∃ ds d', K ds d' = some out ∧ Le d d' ∧ ∀ dF : Dc, Le d' dF → ∀ rest, (rebA a (ds ++ rest)).2 = rest ∧ RI (Sf S L w dF.fz) (Lf L dF.g) (rebA a (ds ++ rest)).1 v := by
  cases a with
  | drop => exact ⟨[], d, h, Le.refl d, fun dF _ rest => ⟨rfl, trivial⟩⟩
  | ty t =>
    simp only [decA] at h
    obtain ⟨y, d1, h1, h2, h3⟩ := frzK_sound hi h hx
    obtain ⟨x', r, h4, h5, h6⟩ := decT_sound t h1
    split at h4
    · refine ⟨_, _, h4, h2, fun dF hd rest => ⟨rfl, ?_⟩⟩
      have h7 := h6 _ [v] (RPs_cons.2 ⟨h3 dF hd, by simp [RPs]⟩)
      rw [List.append_nil] at h7
      show RI _ _ (headP (cellsT t x')) v
      cases hc : cellsT t x' with
      | nil => rw [hc] at h7; simp [RPs] at h7
      | cons z zs =>
        rw [hc] at h7
        exact (RPs_cons.1 h7).1
    · cases h4
  | row i t =>
    simp only [decA] at h
    split at h
    · rename_i b sz
      split at h
      · rename_i hs
        subst hs
        obtain ⟨d', h1, h2, h3⟩ := bindG_some h
        refine ⟨_, _, h1, h2, fun dF hd rest => ⟨rfl, ?_⟩⟩
        obtain ⟨lo, e1, e2⟩ := hx
        exact ⟨lo, by rw [Lf_some (hd.g _ _ h3)]; exact e1, e2⟩
      · cases h
    · obtain ⟨d', h1, h2, h3⟩ := bindG_some h
      refine ⟨_, _, h1, h2, fun dF hd rest => ⟨rfl, ?_⟩⟩
      simp only [RI, RP] at hx
      subst hx
      exact ⟨loNil, Lf_none (hd.g _ _ h3), rfl, none, 0, 0, rfl, by simp [loNil], by simp [loNil], Nat.le_refl _, by have := sizeTy_pos t; omega, .inr ⟨rfl, rfl⟩⟩
    · cases h
  | ptr i off =>
    simp only [decA] at h
    split at h
    · rename_i b o
      split at h
      · rename_i hs
        subst hs
        obtain ⟨d', h1, h2, h3⟩ := bindG_some h
        refine ⟨_, _, h1, h2, fun dF hd rest => ⟨rfl, ?_⟩⟩
        obtain ⟨lo, e1, e2⟩ := hx
        exact ⟨lo, by rw [Lf_some (hd.g _ _ h3)]; exact e1, e2⟩
      · cases h
    · cases h
  | it i =>
    simp only [decA] at h
    split at h
    · rename_i b
      obtain ⟨d', h1, h2, h3⟩ := bindG_some h
      refine ⟨_, _, h1, h2, fun dF hd rest => ⟨rfl, ?_⟩⟩
      obtain ⟨lo, e1, e2⟩ := hx
      exact ⟨lo, by rw [Lf_some (hd.g _ _ h3)]; exact e1, e2⟩
    · cases h
theorem decAs_sound (hi : Inv S L H w) : ∀ {l : List SA} {xs : List IV} {d : Dc} {K : List Dyn → Dc → Option ρ}, decAs H l xs d K = some out → ∀ {cs : List Value}, RIs S L xs cs →
    ∃ ds d', K ds d' = some out ∧ Le d d' ∧ ∀ dF : Dc, Le d' dF → ∀ rest, (rebAs l (ds ++ rest)).2 = rest ∧ RIs (Sf S L w dF.fz) (Lf L dF.g) (rebAs l (ds ++ rest)).1 cs
  | [], [], d, K, h, cs, hl => ⟨[], d, h, Le.refl d, fun _ _ rest => ⟨rfl, by simpa [RIs, rebAs] using hl⟩⟩
  | [], _ :: _, d, K, h, cs, hl => by cases h
  | _ :: _, [], d, K, h, cs, hl => by cases h
  | a :: l, x :: xs, d, K, h, cs, hl => by
    obtain ⟨v, r, rfl, h1, h2⟩ := hl
    simp only [decAs] at h
    obtain ⟨e, d1, h3, h4, h5⟩ := decA_sound hi h h1
    obtain ⟨es, d2, h6, h7, h8⟩ := decAs_sound hi h3 h2
    refine ⟨_, d2, h6, h4.trans h7, fun dF hd rest => ?_⟩
    rw [List.append_assoc]
    obtain ⟨g1, g2⟩ := h5 dF (h7.trans hd) (es ++ rest)
    obtain ⟨g3, g4⟩ := h8 dF hd rest
    simp only [rebAs, g1]
    exact ⟨g3, RIs_cons.2 ⟨g2, g4⟩⟩
theorem decSlot_sound (hi : Inv S L H w) {s : SS} {x : IV} {d : Dc} {K : List Dyn → Dc → Option ρ} (h : decSlot H s x d K = some out) {v : Value} (hx : RI S L x v) :
    ∃ ds d', K ds d' = some out ∧ Le d d' ∧ ∀ dF : Dc, Le d' dF → ∀ rest, (rebS s (ds ++ rest)).2 = rest ∧ RI (Sf S L w dF.fz) (Lf L dF.g) (rebS s (ds ++ rest)).1 v := by
  cases s with
  | one a => exact decA_sound hi h hx
  | val t =>
    simp only [decSlot] at h
    split at h
    · rename_i hagg
      obtain ⟨cs, rfl, h0⟩ := isAggI_cells hagg hx
      obtain ⟨ys, d1, h1, h2, h3⟩ := frzKL_sound hi h h0
      obtain ⟨x', r, h4, h5, h6⟩ := decT_sound t h1
      split at h4
      · refine ⟨_, _, h4, h2, fun dF hd rest => ⟨rfl, ?_⟩⟩
        have h7 := h6 _ cs (h3 dF hd)
        rw [List.append_nil] at h7
        exact mkAggP_rel h7
      · cases h4
    · cases h
  | agg l =>
    simp only [decSlot] at h
    split at h
    · rename_i hagg
      obtain ⟨cs, rfl, h0⟩ := isAggI_cells hagg hx
      obtain ⟨ds, d1, h1, h2, h3⟩ := decAs_sound hi h h0
      exact ⟨ds, d1, h1, h2, fun dF hd rest => ⟨(h3 dF hd rest).1, mkAgg_rel (h3 dF hd rest).2⟩⟩
    · cases h
theorem decSs_sound (hi : Inv S L H w) : ∀ {l : List SS} {xs : List IV} {d : Dc} {K : List Dyn → Dc → Option ρ}, decSs H l xs d K = some out → ∀ {cs : List Value}, RIs S L xs cs →
    ∃ ds d', K ds d' = some out ∧ Le d d' ∧ ∀ dF : Dc, Le d' dF → ∀ rest, (rebSs l (ds ++ rest)).2 = rest ∧ RIs (Sf S L w dF.fz) (Lf L dF.g) (rebSs l (ds ++ rest)).1 (cs.take l.length)
  | [], xs, d, K, h, cs, hl => ⟨[], d, by simpa [decSs] using h, Le.refl d, fun _ _ rest => ⟨rfl, by simp [RIs, rebSs]⟩⟩
  | _ :: _, [], d, K, h, cs, hl => by cases h
  | a :: l, x :: xs, d, K, h, cs, hl => by
    obtain ⟨v, r, rfl, h1, h2⟩ := hl
    simp only [decSs] at h
    obtain ⟨e, d1, h3, h4, h5⟩ := decSlot_sound hi h h1
    obtain ⟨es, d2, h6, h7, h8⟩ := decSs_sound hi h3 h2
    refine ⟨_, d2, h6, h4.trans h7, fun dF hd rest => ?_⟩
    rw [List.append_assoc]
    obtain ⟨g1, g2⟩ := h5 dF (h7.trans hd) (es ++ rest)
    obtain ⟨g3, g4⟩ := h8 dF hd rest
    simp only [rebSs, g1, List.length_cons, List.take_succ_cons]
    exact ⟨g3, RIs_cons.2 ⟨g2, g4⟩⟩

/-! ### Blocks -/
theorem BRc_pv {S' : Mem} {L' : Locs} {lo : Lo} {l : List PV} (hS : ∀ b o v, S b o v → S' b o v) (h : BRc S L w lo (l.map .p)) : BRc S' L' w lo (l.map .p) := by
  obtain ⟨cs, f1, f2, f3, f4, f5, f6, f7⟩ := h
  exact ⟨cs, f1, f2, f3, f4, f5, f6, RIs_mapP.2 ((RIs_mapP.1 f7).mono hS)⟩
theorem decB_sound (hi : Inv S L H w) {i : Nat} {b : BS} {d : Dc} {K : List Dyn → Dc → Option ρ} (h : decB H i b d K = some out) :
    ∃ ds d', K ds d' = some out ∧ Le d d' ∧ ∀ dF : Dc, Le d' dF → ∀ rest, (rebB b (ds ++ rest)).2 = rest ∧
      ((rebB b (ds ++ rest)).1 = .dead ∨ ∃ lo, Lf L dF.g i = some lo ∧ BR (Sf S L w dF.fz) (Lf L dF.g) w lo (rebB b (ds ++ rest)).1) := by
  cases b with
  | dead => exact ⟨[], d, h, Le.refl d, fun dF _ rest => ⟨rfl, .inl rfl⟩⟩
  | tc t =>
    simp only [decB] at h
    split at h
    · rename_i c hc
      split at h
      · rename_i t' l hb
        split at h
        · rename_i e
          subst e
          refine ⟨_, d, h, Le.refl d, fun dF hd rest => ⟨rfl, .inr ?_⟩⟩
          rcases hi.blk c _ hb with e | ⟨lo, e1, e2⟩
          · cases e
          exact ⟨lo, by rw [Lf_some (hd.g _ _ hc)]; exact e1, BRc_pv (fun b o v h => Sf_sub _ b o v h) e2⟩
        · cases h
      · cases h
    · rename_i hc
      refine ⟨_, d, h, Le.refl d, fun dF hd rest => ⟨rfl, .inr ⟨loNil, Lf_none (hd.g _ _ hc), BRc.none _ _ _ rfl rfl⟩⟩⟩
    · cases h
  | cells l =>
    simp only [decB] at h
    split at h
    · rename_i c hc
      have fin : ∀ cs : List IV, (∀ lo, L c = some lo → BRc S L w lo cs) → (∃ lo, L c = some lo) → decAs H l cs d K = some out → ∃ ds d', K ds d' = some out ∧ Le d d' ∧ ∀ dF : Dc, Le d' dF → ∀ rest, (rebB (.cells l) (ds ++ rest)).2 = rest ∧
          ((rebB (.cells l) (ds ++ rest)).1 = .dead ∨ ∃ lo, Lf L dF.g i = some lo ∧ BR (Sf S L w dF.fz) (Lf L dF.g) w lo (rebB (.cells l) (ds ++ rest)).1) := by
        rintro cs hbr ⟨lo, hlo⟩ h
        obtain ⟨vs', f1, f2, f3, f4, f5, f6, f7⟩ := hbr lo hlo
        obtain ⟨ds, d1, h1, h2, h3⟩ := decAs_sound hi h f7
        refine ⟨ds, d1, h1, h2, fun dF hd rest => ?_⟩
        obtain ⟨g1, g2⟩ := h3 dF hd rest
        refine ⟨g1, .inr ⟨lo, by rw [Lf_some (hd.g _ _ (h2.g _ _ hc))]; exact hlo, ?_⟩⟩
        refine (BR_cells (mkBlk_cells _)).2 ⟨vs', f1, ?_, f3, f4, f5, f6, g2⟩
        have := g2.length
        rw [List.length_take] at this
        omega
      split at h
      · rename_i cs hb
        rcases hi.blk c _ hb with e | ⟨lo, e1, e2⟩
        · cases e
        exact fin _ (fun lo' hlo => by rw [e1] at hlo; cases hlo; exact e2) ⟨lo, e1⟩ h
      · rename_i cs hb
        rcases hi.blk c _ hb with e | ⟨lo, e1, e2⟩
        · cases e
        exact fin _ (fun lo' hlo => by rw [e1] at hlo; cases hlo; exact e2) ⟨lo, e1⟩ h
      · cases h
    · cases h
  | iter =>
    simp only [decB] at h
    split at h
    · rename_i c hc
      split at h
      · rename_i s pos hb
        refine ⟨_, d, h, Le.refl d, fun dF hd rest => ⟨rfl, .inr ?_⟩⟩
        rcases hi.blk c _ hb with e | ⟨lo, e1, e2, e3, e4⟩
        · cases e
        exact ⟨lo, by rw [Lf_some (hd.g _ _ hc)]; exact e1, e2, e3, e4⟩
      · cases h
    · cases h
theorem rebBs_len : ∀ (l : List BS) (ds : List Dyn), (rebBs l ds).1.length = l.length
  | [], _ => rfl
  | a :: l, ds => by simp [rebBs, rebBs_len l]
theorem rebSs_len : ∀ (l : List SS) (ds : List Dyn), (rebSs l ds).1.length = l.length
  | [], _ => rfl
  | a :: l, ds => by simp [rebSs, rebSs_len l]
theorem decBs_sound (hi : Inv S L H w) : ∀ {i : Nat} {l : List BS} {d : Dc} {K : List Dyn → Dc → Option ρ}, decBs H i l d K = some out →
    ∃ ds d', K ds d' = some out ∧ Le d d' ∧ ∀ dF : Dc, Le d' dF → ∀ rest j k, (rebBs l (ds ++ rest)).1[j]? = some k →
      (k = .dead ∨ ∃ lo, Lf L dF.g (i + j) = some lo ∧ BR (Sf S L w dF.fz) (Lf L dF.g) w lo k)
  | i, [], d, K, h => ⟨[], d, by simpa [decBs] using h, Le.refl d, fun _ _ rest j k hk => by simp [rebBs] at hk⟩
  | i, b :: l, d, K, h => by
    simp only [decBs] at h
    obtain ⟨e, d1, h3, h4, h5⟩ := decB_sound hi h
    obtain ⟨es, d2, h6, h7, h8⟩ := decBs_sound hi h3
    refine ⟨_, d2, h6, h4.trans h7, fun dF hd rest j k hk => ?_⟩
    rw [List.append_assoc] at hk
    obtain ⟨g1, g2⟩ := h5 dF (h7.trans hd) (es ++ rest)
    simp only [rebBs, g1] at hk
    cases j with
    | zero => simp at hk; subst hk; exact g2
    | succ j =>
      have := h8 dF hd rest j k (by simpa using hk)
      rwa [show i + 1 + j = i + (j + 1) from by omega] at this

/-! ### The whole -/
theorem okG_spec {fz : List Nat} {n : Nat} : ∀ {g : G}, okG fz n g = true → (∀ i c, look i g = some c → i < n) ∧ (∀ i b, look i g = some (some b) → b ∉ fz ∧ g.any (fun q => q.2 == some b) = true) ∧
    (∀ i j b, look i g = some (some b) → look j g = some (some b) → i = j)
  | [], _ => ⟨(fun i c h => by cases h), (fun i b h => by cases h), (fun i j b h => by cases h)⟩
  | (k, none) :: g, h => by
    simp only [okG, Bool.and_eq_true, decide_eq_true_eq] at h
    obtain ⟨h1, h2, h3⟩ := okG_spec h.2
    refine ⟨fun i c hi => ?_, fun i b hi => ?_, fun i j b hi hj => ?_⟩
    · simp only [look] at hi
      split at hi
      · rename_i e; subst e; exact h.1
      · exact h1 i c hi
    · simp only [look] at hi
      split at hi
      · cases hi
      · exact ⟨(h2 i b hi).1, by simp only [List.any_cons, (h2 i b hi).2, Bool.or_true]⟩
    · simp only [look] at hi hj
      split at hi
      · cases hi
      · split at hj
        · cases hj
        · exact h3 i j b hi hj
  | (k, some c) :: g, h => by
    simp only [okG, Bool.and_eq_true, decide_eq_true_eq, Bool.not_eq_true'] at h
    obtain ⟨h0, h4, h5, h6⟩ := h
    obtain ⟨h1, h2, h3⟩ := okG_spec h6
    have hno : ∀ i b, look i g = some (some b) → b ≠ c := fun i b hi e => by
      subst e
      rw [(h2 i b hi).2] at h5
      cases h5
    refine ⟨fun i x hi => ?_, fun i b hi => ?_, fun i j b hi hj => ?_⟩
    · simp only [look] at hi
      split at hi
      · rename_i e; subst e; exact h0
      · exact h1 i x hi
    · simp only [look] at hi
      split at hi
      · cases hi
        refine ⟨by simpa using h4, by simp⟩
      · exact ⟨(h2 i b hi).1, by simp only [List.any_cons, (h2 i b hi).2, Bool.or_true]⟩
    · simp only [look] at hi hj
      split at hi
      · cases hi
        split at hj
        · rename_i e1 e2; omega
        · exact absurd rfl (hno j c hj)
      · split at hj
        · cases hj
          exact absurd rfl (hno i c hi)
        · exact h3 i j b hi hj
theorem und1_some {a : HTy} {d : Dyn} {K : HA a → Option ρ} (h : und1 a d K = some out) : ∃ x, K x = some out ∧ dyn1 a x = d := by
  cases a with
  | ty t =>
    cases d with
    | ty t' y =>
      simp only [und1] at h
      split at h
      · rename_i e; subst e; exact ⟨y, h, rfl⟩
      · cases h
    | nat n => cases h
  | nat =>
    cases d with
    | ty t' y => cases h
    | nat n => exact ⟨n, h, rfl⟩
theorem unds_some : ∀ {l : List HTy} {ds : List Dyn} {K : Prods l → Option ρ}, unds l ds K = some out → ∃ x, K x = some out ∧ dyns l x = ds
  | [], [], K, h => ⟨(), h, rfl⟩
  | [], _ :: _, K, h => by cases h
  | [a], [], K, h => by cases h
  | [a], [x], K, h => by
    obtain ⟨y, h1, h2⟩ := und1_some h
    exact ⟨y, h1, by simp [dyns, h2]⟩
  | [a], _ :: _ :: _, K, h => by cases h
  | a :: b :: l, [], K, h => by cases h
  | a :: b :: l, x :: r, K, h => by
    simp only [unds] at h
    obtain ⟨y, h1, h2⟩ := und1_some h
    obtain ⟨z, h3, h4⟩ := unds_some h1
    exact ⟨(y, z), h3, by simp [dyns, h2, h4]⟩
theorem decSpec_sound (hi : Inv S L H w) {s : Spec} {K : Holes s → Option ρ} (h : decSpec s t H K = some out) (ht : RIs S L t vs) :
    ∃ x, K x = some out ∧ ∃ S' L', (∀ b o u, S b o u → S' b o u) ∧ (∀ b o u, S' b o u → S b o u ∨ Own L b) ∧ Inv S' L' (rebH s x) w ∧ RIs S' L' (rebT s x) (vs.take s.ss.length) ∧
      ∀ i lo, L' i = some lo → lo.size ≠ 0 → Own L lo.blk := by
  unfold decSpec at h
  obtain ⟨ds, d1, h1, h2, h3⟩ := decSs_sound hi h ht
  obtain ⟨es, d2, h4, h5, h6⟩ := decBs_sound hi h1
  obtain ⟨hok, h7⟩ := chk_some h4
  obtain ⟨x, h8, h9⟩ := unds_some h7
  obtain ⟨g1, g2, g3⟩ := okG_spec hok
  have hT := h3 d2 h5 es
  have hL : ∀ i lo, Lf L d2.g i = some lo → lo.size ≠ 0 → ∃ b, look i d2.g = some (some b) ∧ L b = some lo := fun i lo hl h0 => by
    unfold Lf at hl
    split at hl
    · exact ⟨_, by assumption, hl⟩
    · cases hl; exact absurd rfl h0
    · cases hl
  refine ⟨x, h8, Sf S L w d2.fz, Lf L d2.g, fun b o u hu => .inl hu, ?_, ⟨?_, ?_, ?_, ?_, ?_⟩, ?_, ?_⟩
  · rintro b o u (hu | ⟨c, _, lo, e1, e2, e3, _⟩)
    · exact .inl hu
    · exact .inr ⟨c, lo, e1, e2, e3⟩
  · intro j k hk
    unfold rebH at hk
    rw [h9, hT.1, show es = es ++ [] from by simp] at hk
    have := h6 d2 (Le.refl d2) [] j k hk
    rwa [Nat.zero_add] at this
  · intro b hb
    unfold rebH at hb
    rw [rebBs_len] at hb
    unfold Lf
    cases hl : look b d2.g with
    | none => rfl
    | some c => have := g1 b c hl; omega
  · intro i j lo lo' hi1 hj1 h0 h0' hij
    obtain ⟨b, e1, e2⟩ := hL i lo hi1 h0
    obtain ⟨c, e3, e4⟩ := hL j lo' hj1 h0'
    exact hi.inj b c lo lo' e2 e4 h0 h0' fun e => hij (g3 i j b e1 (by rw [e]; exact e3))
  · intro i lo hi1 h0
    obtain ⟨b, e1, e2⟩ := hL i lo hi1 h0
    exact hi.inh b lo e2 h0
  · rintro b o v (hu | ⟨c, hc, lo, e1, e2, e3, e4, e5, e6⟩)
    · obtain ⟨k1, k2, k3, k4⟩ := hi.sta b o v hu
      refine ⟨k1, k2, k3, fun i lo hl h0 => ?_⟩
      obtain ⟨b', e1, e2⟩ := hL i lo hl h0
      exact k4 b' lo e2 h0
    · refine ⟨e4, e5, e6, fun i lo' hl h0 => ?_⟩
      obtain ⟨b', q1, q2⟩ := hL i lo' hl h0
      rw [← e3]
      exact hi.inj b' c lo' lo q2 e1 h0 e2 fun e => (g2 i b' q1).1 (by rw [e]; exact hc)
  · unfold rebT
    rw [h9]
    exact hT.2
  · intro i lo hl h0
    obtain ⟨b, e1, e2⟩ := hL i lo hl h0
    exact ⟨b, lo, e2, h0, rfl⟩
end
end Go.Proofs.YtfaofikhabccoaaGreatDoor.Jv
