/- The ideal machine's appends; conditions: none. -/
import Derived.Test.YtfaofikhabccoaaGreatDoorJvOps3
namespace Go.Proofs.YtfaofikhabccoaaGreatDoor.Jv
open Go Go.RowKit
set_option linter.unusedVariables false
set_option linter.unusedSimpArgs false
section
variable {ρ : Type} {P : Program} {S : Mem} {L : Locs} {H : Hp} {w : World} {t : List IV} {vs : List Value} {run : Result Next} {K : IV → Option Nat → Hp → Option ρ} {out : ρ}

theorem mul_lt {a b c : Nat} (h : a * (b + 1) < c) : a * b < c ∧ a < c := by
  rw [Nat.mul_succ] at h
  exact ⟨by omega, by omega⟩
theorem oneV_iff (v : Value) : oneV v = v.oneCell' := by cases v <;> rfl
theorem allOneV_mem {l : List Value} (h : allOneV l = true) : ∀ v ∈ l, v.oneCell' = true := by
  induction l with
  | nil => intro v hv; cases hv
  | cons x l ih =>
    simp only [allOneV, Bool.and_eq_true] at h
    intro v hv
    rcases List.mem_cons.1 hv with rfl | hv
    · rw [← oneV_iff]; exact h.1
    · exact ih h.2 v hv
theorem zeroOK_some {e : TypeId} {sz : Nat} (h : zeroOK P e sz = true) : ∃ i z, P.info? e = some i ∧ i.zero = some z ∧ z.cells.size = sz ∧ ∀ v ∈ z.cells.toList, v.oneCell' = true := by
  unfold zeroOK at h
  split at h
  · rename_i z hz
    obtain ⟨i, h1, h2⟩ := zeroT_some hz
    simp only [Bool.and_eq_true, beq_iff_eq] at h
    exact ⟨i, z, h1, h2, h.1, allOneV_mem h.2⟩
  · cases h
theorem zeroCells_one {z : Array Value} (hz : ∀ v ∈ z.toList, v.oneCell' = true) (hne : z.size ≠ 0) (n : Nat) : ∀ v ∈ (Builtin.zeroCells z n).toList, v.oneCell' = true := by
  intro v hv
  simp only [Builtin.zeroCells, Array.toList_map, List.mem_map] at hv
  obtain ⟨i, _, rfl⟩ := hv
  have : i % z.size < z.size := Nat.mod_lt _ (by omega)
  rw [getElem!_pos z _ this]
  exact hz _ (by simp)
theorem zeroCells_size (z : Array Value) (n : Nat) : (Builtin.zeroCells z n).toList.length = n * z.size := by simp [Builtin.zeroCells]
theorem grown_ge (w : World) (need old : Nat) (e : TypeId) : need ≤ grownCap w need old e := by
  unfold grownCap
  simp [Question.cut]
theorem elTy_some {ty e : TypeId} {q : Ty} (hue : P.underlying ty = some (.slice e)) (h : elTy P ty = some q) : ∃ i, P.info? e = some i ∧ i.size = sizeTy q := by
  unfold elTy at h
  split at h
  · split at h
    · split at h
      · rename_i hs
        cases h
        obtain ⟨i, h1, h2, _⟩ := elemSz_slice hue hs
        exact ⟨i, h1, h2⟩
      · cases h
    · cases h
  · cases h
/-- What an append comes to, whatever is appended. -/
structure AppRun (P : Program) (w : World) (ty ty2 oty e : TypeId) (i : TypeInfo) (xv : Value) (m : Nat) (news : List Value) : Prop where
  newsLen : news.length = m * i.size
  one : ∀ u ∈ news, u.oneCell' = true
  zero : m = 0 → ∀ a, (Builtin.append_ #[ty, ty2] oty #[.slice a 0 0, xv]).run P w = .ok (.slice a 0 0) w
  room : ∀ b off sLen sCap : Nat, sLen + m ≤ sCap → (∀ j, j < news.length → (w.cell? ⟨b, off + sLen * i.size + j, none⟩).isSome = true) → (∀ j, j < news.length → w.frozen? ⟨b, off + sLen * i.size + j, none⟩ = false) →
    (Builtin.append_ #[ty, ty2] oty #[.slice (some ⟨b, off, none⟩) sLen sCap, xv]).run P w = .ok (.slice (some ⟨b, off, none⟩) (sLen + m) sCap) (w.setCells b (off + sLen * i.size) news)
  grow : ∀ (z : Value) (base : Option Addr) (sLen sCap : Nat) (olds : List Value), i.zero = some z → (Builtin.firstCells i.size sLen (.slice base sLen sCap)).run P w.drew = .ok olds.toArray w.drew → sCap < sLen + m →
    ((sLen + m : Nat) : Int) ≤ 9223372036854775807 → Builtin.nextslicecap (sLen + m) sCap * i.bytes ≤ 281474976710656 →
    (Builtin.append_ #[ty, ty2] oty #[.slice base sLen sCap, xv]).run P w = .ok (.slice (some ⟨w.heap.size, 0, none⟩) (sLen + m) (grownCap w (sLen + m) sCap e))
      (w.drew.alloc (.cells ((olds ++ news).toArray ++ Builtin.zeroCells z.cells (grownCap w (sLen + m) sCap e - (sLen + m))) e))
theorem AppRun.ofSrc {ty ty2 oty e : TypeId} {i : TypeInfo} {xv : Value} {m : Nat} {news : List Value} (hue : P.underlying ty = some (.slice e)) (h1 : P.info? e = some i) (src : Src P i.size ty2 xv m news w) : AppRun P w ty ty2 oty e i xv m news where
  newsLen := src.newsLen
  one := src.one
  zero := fun hm a => by
    subst hm
    have hnil : news = [] := List.eq_nil_of_length_eq_zero (by rw [src.newsLen]; simp)
    subst hnil
    cases a <;> rcases src.kind with ⟨e', hk⟩ | hk <;> simp [Builtin.append_, run_underlying hue, run_underlying hk, sizeOf, typeInfo, h1, src.len, src.cells, storeCells]
  room := fun b off sLen sCap g1 g2 g3 => run_append_room_src (P := P) w ty ty2 oty e i hue h1 b off sLen sCap xv m news src g1 g2 g3
  grow := fun z base sLen sCap olds g1 g2 g3 g4 g5 => run_append_grow_src (P := P) w ty ty2 oty e i z hue h1 g1 base sLen sCap olds g2 xv m news src g3 g4 g5
theorem AppRun.ofZeros {ty ty2 oty e : TypeId} {i : TypeInfo} {z : Value} {k : IntKind} {n : Int} (hue : P.underlying ty = some (.slice e)) (h1 : P.info? e = some i) (hk : P.underlying ty2 = some (.int k)) (hz : i.zero = some z)
    (hsz : z.cells.size = i.size) (hs0 : i.size ≠ 0) (hone : ∀ v ∈ z.cells.toList, v.oneCell' = true) (h0 : 0 ≤ n) (hn : n < 70368744177664) (hb : n * i.bytes ≤ 281474976710656) : AppRun P w ty ty2 oty e i (.int .i64 n) n.toNat (Builtin.zeroCells z.cells n.toNat).toList := by
  have hw : IntKind.i64.wrap n = n := by
    simp only [IntKind.wrap, IntKind.signed, IntKind.bits]
    simp
    split <;> omega
  have hlen : (Builtin.zeroCells z.cells n.toNat).toList.length = n.toNat * i.size := by rw [zeroCells_size, hsz]
  have hone' := zeroCells_one hone (by omega) n.toNat
  have g1 : ¬ n < 0 := by omega
  have g2 : ¬ 281474976710656 < n * (i.bytes : Int) := by omega
  refine ⟨hlen, hone', ?_, ?_, ?_⟩
  · intro hm a
    have hn0 : n = 0 := by omega
    subst hn0
    cases a <;> simp [Builtin.append_, run_underlying hue, run_underlying hk, sizeOf, typeInfo, h1, asInt, asIntOf, hw, storeCells]
  · intro b off sLen sCap hroom hc hf
    have hst := run_storeCells_cells (P := P) b (off + sLen * i.size) (Builtin.zeroCells z.cells n.toNat).toList 0 w (by simpa using hc) (by simpa using hf) hone'
    simp only [Nat.add_zero] at hst
    by_cases hm : n.toNat = 0
    · have hn0 : n = 0 := by omega
      subst hn0
      have hz0 : (Builtin.zeroCells z.cells (0 : Int).toNat).toList = [] := List.eq_nil_of_length_eq_zero (by rw [hlen]; simp)
      rw [hz0] at hst ⊢
      have hr : sLen ≤ sCap := by simpa using hroom
      simp [Builtin.append_, run_underlying hue, run_underlying hk, sizeOf, typeInfo, h1, asInt, asIntOf, hw, hr, hst, Addr.add_lit]
    · have hms : ¬ (n.toNat * i.size = 0) := fun h => by rcases Nat.mul_eq_zero.1 h with h | h <;> omega
      simp [Builtin.append_, run_underlying hue, run_underlying hk, sizeOf, typeInfo, zeroValue, h1, hz, asInt, asIntOf, hw, g1, g2, hroom, hst, Addr.add_lit]
      exact fun h => absurd h hms
  · intro z' base sLen sCap olds hz' hold hg h63 hfit
    rw [hz] at hz'; cases hz'
    have hn1 : ¬ (sLen + n.toNat ≤ sCap) := by omega
    have h63' : ¬ (9223372036854775807 < ((sLen : Int) + (n.toNat : Int))) := by omega
    have h48' : ¬ (281474976710656 < Builtin.nextslicecap (sLen + n.toNat) sCap * i.bytes) := by omega
    by_cases hm : n.toNat = 0
    · have hn0 : n = 0 := by omega
      subst hn0
      have hz0 : (Builtin.zeroCells z.cells (0 : Int).toNat) = #[] := by
        apply Array.ext'
        exact List.eq_nil_of_length_eq_zero (by rw [hlen]; simp)
      have hn1' : ¬ (sLen ≤ sCap) := by simpa using hn1
      have h63'' : ¬ (9223372036854775807 < (sLen : Int)) := by simpa using h63'
      have h48'' : ¬ (281474976710656 < Builtin.nextslicecap sLen sCap * i.bytes) := by simpa using h48'
      simp [Builtin.append_, run_underlying hue, run_underlying hk, sizeOf, typeInfo, zeroValue, h1, hz, asInt, asIntOf, hw, hn1', h63'', h48'', Question.forced, hold, newRow, grownCap, show Builtin.zeroCells z.cells 0 = #[] from hz0]
    · have hms : ¬ (n.toNat * i.size = 0) := fun h => by rcases Nat.mul_eq_zero.1 h with h | h <;> omega
      have hmax : max n 0 = n := by omega
      have h63n : ¬ (9223372036854775807 < (sLen : Int) + n) := by omega
      simp [Builtin.append_, run_underlying hue, run_underlying hk, sizeOf, typeInfo, zeroValue, h1, hz, asInt, asIntOf, hw, g1, g2, hn1, hmax, h63n, h48', Question.forced, hold, newRow, grownCap]
      rw [if_neg hms]
      simp
      congr 2
      apply Array.ext'
      simp [List.append_assoc]
theorem appendL_sound (hi : Inv S L H w) (ht : RIs S L t vs) {ty ty2 oty : TypeId} {e : TypeId} (hue : P.underlying ty = some (.slice e)) {q : Ty} (hq : elTy P ty = some q) {d : IV} {dv xv : Value} (hd : RI S L d dv) (hz : zeroOK P e (sizeTy q) = true)
    {l' : List (T q)} {news : List Value} (hl : RPs S (cellsL q l') news) {i : TypeInfo} (h1 : P.info? e = some i) (src0 : AppRun P w ty ty2 oty e i xv l'.length news)
    (h : appendL P H q e d l' K = some out) (hrun : ∀ v w', (Builtin.append_ #[ty, ty2] oty #[dv, xv]).run P w = .ok v w' → run = .ok (.value v) w') : OpOK S L H w t vs run K out := by
  obtain ⟨i', h1', hsz⟩ := elTy_some hue hq
  rw [h1] at h1'; cases h1'
  have h3 : sizeTy q ≠ 0 := by have := sizeTy_pos q; omega
  obtain ⟨i', z, h1', h4, h5, h6⟩ := zeroOK_some hz
  rw [h1] at h1'; cases h1'
  rw [← hsz] at h3
  have hbytes : bytesT P e = i.bytes := by simp [bytesT, h1]
  unfold appendL at h
  generalize hm' : l'.length = m at src0
  have src := src0
  have hgrow : (⟨news ++ (Builtin.zeroCells z.cells (grownCap w m 0 e - m)).toList⟩ : Array Value) = (([] : List Value) ++ news).toArray ++ Builtin.zeroCells z.cells (grownCap w m 0 e - m) := by
    apply Array.ext'; simp
  split at h
  · -- onto nothing
    simp only [RI, RP] at hd
    subst hd
    obtain ⟨hb, h⟩ := chk_some h
    have hb' := mul_lt (of_decide_eq_true hb)
    rw [hbytes, hm'] at hb'
    by_cases hm0 : m = 0
    · subst hm0
      have hl0 : l' = [] := List.eq_nil_of_length_eq_zero hm'
      subst hl0
      have hnil : news = [] := List.eq_nil_of_length_eq_zero (by rw [src.newsLen]; simp)
      subst hnil
      have this := src.zero rfl none
      exact newNil_sound hi ht h (hrun _ _ this)
    · have := src.grow z none 0 0 [] h4 (by simp [Builtin.firstCells]) (by omega) (by omega) (growslice_fits (by omega) (by rw [Nat.zero_add]; omega))
      rw [Nat.zero_add] at this
      have hge := grown_ge w m 0 e
      refine newRow_sound hi ht (cs := news) (rest := (Builtin.zeroCells z.cells (grownCap w m 0 e - m)).toList) (e := e) (fr := (0, 0)) (cap := grownCap w m 0 e) (q := q) (n := m)
        (w' := w.drew.alloc (.cells ((([] : List Value) ++ news).toArray ++ Builtin.zeroCells z.cells (grownCap w m 0 e - m)) e)) ?_ (fun j _ => by simp) hl src.one (zeroCells_one h6 (by omega) _) hm'.symm ?_ hge h (hrun _ _ this)
      · rw [hgrow]
        exact Grew.drew w _
      · rw [src.newsLen, zeroCells_size, h5, hsz, ← Nat.add_mul]
        congr 1
        omega
  · rename_i b sz'
    split at h
    · rename_i q' l hk
      split at h
      · rename_i eq'
        subst eq'
        split at h
        · rename_i hszeq
          subst hszeq
          obtain ⟨hb, h⟩ := chk_some h
          have hb' := mul_lt (of_decide_eq_true hb)
          rw [hbytes, hm'] at hb'
          obtain ⟨lo, e1, e2, a, n, cap, rfl, e3, e4, e5, e6, e9⟩ := hd
          rcases hi.blk b _ hk with hkk | ⟨lo', e7, e8⟩
          · cases hkk
          rw [e1] at e7; cases e7
          obtain ⟨cs, f1, f2, f3, f4, f5, f6, f7⟩ := e8
          have hblen : b < H.length := (List.getElem?_eq_some_iff.1 hk).1
          have hbox : ∀ a, L b = some a → a.box = false := fun a h => by rw [e1] at h; cases h; exact e2
          rw [List.length_map, cellsL_len, ← e3] at f2
          have hn : n = l.length := (Nat.eq_of_mul_eq_mul_right (by omega) f2).symm
          rw [← hn] at hb'
          have hcells : RPs S (cellsL q' (l ++ l')) (cs.take lo.len ++ news) := by rw [cellsL_append]; exact (RIs_mapP.1 f7).append hl
          have hll : (cellsL q' (l ++ l')).length = lo.len + news.length := by
            rw [cellsL_len, List.length_append, ← hn, Nat.add_mul, e3, src.newsLen, hm', hsz]
          have hfin : ∀ lo', lo'.box = false → ∀ c' cap' w', lo'.len = lo.len + news.length → cap' * sizeTy q' = lo'.size → n + m ≤ cap' → (c' = some ⟨lo'.blk, 0, none⟩ ∨ (lo'.size = 0 ∧ c' = none)) →
              Ext H.length S L w S (addL L b lo') (mapH (kill b) (H.set b (.tc q' (l ++ l')))) w' → run = .ok (.value (.slice c' (n + m) cap')) w' → OpOK S L H w t vs run K out := by
            intro lo' hbx c' cap' w' hlen hcap hle hc hext hr
            refine ⟨_, _, _, h, _, _, _, .inl hr, hext, ⟨lo', if_pos rfl, hbx, c', n + m, cap', rfl, ?_, hcap, hle, e6, hc⟩, RIs_of (mapI (kill b)) (RI_mapI _ (RI_kill hbox (fun _ _ _ h => h) (fun i a hne h => by unfold addL; rw [if_neg hne]; exact h))) ht⟩
            rw [hlen, Nat.add_mul, e3, src.newsLen, hsz]
          by_cases hroom : n + m ≤ cap
          · -- there is room
            have hle : lo.len + news.length ≤ lo.size := by
              rw [src.newsLen, ← e3, ← e4, hsz, ← Nat.add_mul]
              exact Nat.mul_le_mul_right _ hroom
            by_cases hz0 : lo.size = 0
            · -- nothing onto nothing
              have hcap0 : cap = 0 := by
                rcases Nat.mul_eq_zero.1 (e4.trans hz0) with h | h
                · exact h
                · exact absurd h e6
              subst hcap0
              have hn0 : n = 0 := by omega
              have hm0 : m = 0 := by omega
              subst hm0
              have hl0 : l' = [] := List.eq_nil_of_length_eq_zero hm'
              have hl1 : l = [] := List.eq_nil_of_length_eq_zero (by omega)
              subst hl0 hl1
              have hnil : news = [] := List.eq_nil_of_length_eq_zero (by rw [src.newsLen]; simp)
              subst hnil
              simp only [List.length_nil] at hn
              subst hn
              have hlen0 : lo.len = 0 := by omega
              have hthis := src.zero rfl a
              refine hfin lo e2 a 0 w (by simp) e4 (Nat.le_refl _) e9 ?_ (hrun _ _ hthis)
              refine Ext.upd hi e1 e2 rfl rfl rfl (Nat.le_refl _) (fun _ _ _ => rfl) (.inr (.inl hz0)) (fun h => absurd hz0 h) hblen fun L' hL => ?_
              exact BRc.none S L' w hz0 hlen0
            · have ha : a = some ⟨lo.blk, 0, none⟩ := by
                rcases e9 with e9 | ⟨e9, _⟩
                · exact e9
                · exact absurd e9 hz0
              subst ha
              have hth : ∀ j, j < news.length → (w.cell? ⟨lo.blk, lo.len + j, none⟩).isSome = true ∧ w.frozen? ⟨lo.blk, lo.len + j, none⟩ = false := fun j hj => by
                have := f5.1 (lo.len + j) (by omega); simpa using this
              have e3' : n * i.size = lo.len := by rw [hsz]; exact e3
              have := src.room lo.blk 0 n cap hroom (fun j hj => by rw [Nat.zero_add, e3']; exact (hth j hj).1) (fun j hj => by rw [Nat.zero_add, e3']; exact (hth j hj).2)
              rw [Nat.zero_add, e3'] at this
              obtain ⟨o1, o2, o3, o4, o5⟩ := World.os_setCells lo.blk news lo.len w
              refine hfin ⟨lo.blk, lo.size, lo.len + news.length, false⟩ rfl _ cap _ rfl e4 hroom (.inl rfl) ?_ (hrun _ _ this)
              refine Ext.upd hi e1 e2 o1 o2 o3 (by omega) (fun q _ hq => o5 q (hq hz0)) (.inl ⟨hz0, rfl⟩) (fun _ => by rw [o4]; exact hi.inh b lo e1 hz0) hblen fun L' hL => ?_
              refine ⟨over cs lo.len news, by rw [over_length, f1], ?_, hle, rangeAt_over f4 _ _ (by omega), ⟨World.there_setCells f5.1 _ _ _, fun h0 => frOK_setCells _ _ _ _ (f5.2 h0)⟩, ?_, ?_⟩
              · rw [List.length_map, hll]
              · intro u hu
                obtain ⟨j, hj, rfl⟩ := List.getElem_of_mem hu
                have hg := over_get cs lo.len news (by omega) j
                rw [List.getElem?_eq_getElem hj] at hg
                split at hg
                · exact src.one _ (List.mem_of_getElem? hg.symm)
                · exact f6 _ (List.mem_of_getElem? hg.symm)
              · have ht2 : (over cs lo.len news).take (lo.len + news.length) = cs.take lo.len ++ news := by
                  apply List.ext_getElem?
                  intro j
                  rw [List.getElem?_take, over_get _ _ _ (by omega), List.getElem?_append]
                  have hlt : (cs.take lo.len).length = lo.len := by simp; omega
                  rw [hlt]
                  by_cases hj1 : j < lo.len
                  · rw [if_pos (by omega), if_neg (by omega), if_pos hj1, List.getElem?_take, if_pos hj1]
                  · rw [if_neg hj1]
                    by_cases hj2 : j < lo.len + news.length
                    · rw [if_pos hj2, if_pos (by omega)]
                    · rw [if_neg hj2, List.getElem?_eq_none (by omega)]
                rw [ht2]
                exact RIs_mapP.2 hcells
          · -- a new row
            have hclen : (cs.take lo.len).length = lo.len := by simp; omega
            have hold : (Builtin.firstCells i.size n (.slice a n cap)).run P w.drew = .ok (cs.take lo.len).toArray w.drew := by
              rcases e9 with rfl | ⟨hz0, rfl⟩
              · refine run_firstCells_some w.drew i.size n ⟨lo.blk, 0, none⟩ n cap (cs.take lo.len) ?_ ?_
                · rw [hclen, hsz, e3]
                · intro j u hj
                  rw [Addr.add_mid]
                  exact rangeAt_take f4 lo.len j u hj
              · have hn0 : n = 0 := by
                  rcases Nat.mul_eq_zero.1 (show n * sizeTy q' = 0 by omega) with h | h
                  · exact h
                  · exact absurd h e6
                subst hn0
                have : cs.take lo.len = [] := List.eq_nil_of_length_eq_zero (by omega)
                rw [this]
                simp [Builtin.firstCells]
            have := src.grow z a n cap (cs.take lo.len) h4 hold (by omega) (by omega) (growslice_fits (by omega) (by omega))
            have hge := grown_ge w (n + m) cap e
            have e9' : (⟨(cs.take lo.len ++ news) ++ (Builtin.zeroCells z.cells (grownCap w (n + m) cap e - (n + m))).toList⟩ : Array Value) = (cs.take lo.len ++ news).toArray ++ Builtin.zeroCells z.cells (grownCap w (n + m) cap e - (n + m)) := by
              apply Array.ext'; simp
            rw [← e9'] at this
            have hg := Grew.drew w (.cells ⟨(cs.take lo.len ++ news) ++ (Builtin.zeroCells z.cells (grownCap w (n + m) cap e - (n + m))).toList⟩ e)
            have hlen : (cs.take lo.len ++ news).length = lo.len + news.length := by rw [List.length_append, hclen]
            have hlen2 : (cs.take lo.len ++ news).length = (n + m) * i.size := by rw [hlen, src.newsLen, ← e3, hsz, Nat.add_mul]
            refine hfin ⟨w.heap.size, (cs.take lo.len ++ news).length + (Builtin.zeroCells z.cells (grownCap w (n + m) cap e - (n + m))).toList.length, (cs.take lo.len ++ news).length, false⟩ rfl _ _ _ hlen ?_ hge (.inl rfl) ?_ (hrun _ _ this)
            · rw [hlen2, zeroCells_size, h5, hsz, ← Nat.add_mul]
              congr 1
              omega
            · refine Ext.upd hi e1 e2 hg.os hg.tape hg.output (by rw [hg.size]; omega) (fun q hq _ => hg.old hq) (.inr (.inr (Nat.le_refl _))) (fun _ => by rw [hg.size]; simp) hblen fun L' hL => ?_
              exact new_BRc hg.at (fun j _ => by simp) (RIs_mapP.2 hcells) (fun u hu => by
                rcases List.mem_append.1 hu with h | h
                · exact f6 u (List.mem_of_mem_take h)
                · exact src.one u h) (zeroCells_one h6 (by omega) _)
        · cases h
      · cases h
    · cases h
  · cases h
theorem append_sound (hi : Inv S L H w) (ht : RIs S L t vs) {ty ty2 oty : TypeId} (hs : isSliceT P ty = true) {d x : IV} {dv xv : Value} (hd : RI S L d dv) (hx : RI S L x xv)
    (hstr : (∃ s, x = .p (.v (.string s))) → P.underlying ty2 = some .string) (hsl : ¬ (∃ s, x = .p (.v (.string s))) → ∃ e', P.underlying ty2 = some (.slice e'))
    (h : appendK P H ty d x K = some out) (hrun : ∀ v w', (Builtin.append_ #[ty, ty2] oty #[dv, xv]).run P w = .ok v w' → run = .ok (.value v) w') : OpOK S L H w t vs run K out := by
  obtain ⟨e, hue⟩ := isSliceT_some hs
  have he : elemT P ty = some e := by simp [elemT, hue]
  unfold appendK at h
  rw [he] at h
  cases hq : elTy P ty with
  | none => simp [hq] at h
  | some q =>
  obtain ⟨i, h1, hsz⟩ := elTy_some hue hq
  simp only [hq] at h
  split at h
  · rename_i hz
    have hh := srcA_sound hi hx h hstr hsl
    clear h
    obtain ⟨l', h, news, hl, src⟩ := hh
    rw [← hsz] at src
    exact appendL_sound hi ht hue hq hd hz hl h1 (AppRun.ofSrc hue h1 src) h hrun
  · cases h
end
end Go.Proofs.YtfaofikhabccoaaGreatDoor.Jv
