/- The ideal machine's appends; conditions: none. -/
import Derived.Test.YtgldfdpdjlohiaaDoorIvOps3
namespace Go.Proofs.YtgldfdpdjlohiaaDoor.Iv
open Go Go.RowKit
section
variable {P : Program} {S : Mem} {L : Locs} {H : Hp} {w : World} {t : List IV} {vs : List Value} {run : Result Next} {K : IV → Option Nat → Hp → R} {out : IV × Hp}

theorem mul_lt {a b c : Nat} (h : a * (b + 1) < c) : a * b < c ∧ a < c := by
  rw [Nat.mul_succ] at h
  exact ⟨by omega, by omega⟩
theorem oneV_iff (v : Value) : oneV v = v.oneCell' := by cases v <;> rfl
theorem allOneV_mem {l : List Value} (h : allOneV l = true) : ∀ v ∈ l, v.oneCell' = true := by
  induction l with
  | nil => intro v hv; cases hv
  | cons x l ih =>
    simp only [allOneV, Bool.and_eq_true] at h
    intro v hv
    rcases List.mem_cons.1 hv with rfl | hv
    · rw [← oneV_iff]; exact h.1
    · exact ih h.2 v hv
theorem zeroOK_some {e : TypeId} {sz : Nat} (h : zeroOK P e sz = true) : ∃ i z, P.info? e = some i ∧ i.zero = some z ∧ z.cells.size = sz ∧ ∀ v ∈ z.cells.toList, v.oneCell' = true := by
  unfold zeroOK at h
  split at h
  · rename_i z hz
    obtain ⟨i, h1, h2⟩ := zeroT_some hz
    simp only [Bool.and_eq_true, beq_iff_eq] at h
    exact ⟨i, z, h1, h2, h.1, allOneV_mem h.2⟩
  · cases h
theorem zeroCells_one {z : Array Value} (hz : ∀ v ∈ z.toList, v.oneCell' = true) (hne : z.size ≠ 0) (n : Nat) : ∀ v ∈ (Builtin.zeroCells z n).toList, v.oneCell' = true := by
  intro v hv
  simp only [Builtin.zeroCells, Array.toList_map, List.mem_map] at hv
  obtain ⟨i, _, rfl⟩ := hv
  have : i % z.size < z.size := Nat.mod_lt _ (by omega)
  rw [getElem!_pos z _ this]
  exact hz _ (by simp)
theorem zeroCells_size (z : Array Value) (n : Nat) : (Builtin.zeroCells z n).toList.length = n * z.size := by simp [Builtin.zeroCells]
theorem grown_ge (w : World) (need old : Nat) (e : TypeId) : need ≤ grownCap w need old e := by
  unfold grownCap
  simp [Question.cut]
theorem appendB_some {k k' : Blk} {l : List IV} (h : appendB k l = some k') : ∃ c, blkCells k = some c ∧ blkCells k' = some (c ++ l) := by
  cases k with
  | pc c =>
    simp only [appendB] at h
    split at h
    · rename_i ps hps
      cases h
      exact ⟨_, rfl, by rw [allP_some hps]; simp [blkCells]⟩
    · cases h; exact ⟨_, rfl, rfl⟩
  | gc c => simp only [appendB] at h; cases h; exact ⟨_, rfl, rfl⟩
  | iter s p => cases h
  | dead => cases h
theorem BR_cells {lo : Lo} {k : Blk} {c : List IV} (hc : blkCells k = some c) : BR S L w lo k ↔ BRc S L w lo c := by
  cases k <;> simp only [blkCells] at hc <;> cases hc <;> rfl
theorem BR_killed {lo : Lo} {k : Blk} {c : List IV} {b : Nat} (hc : blkCells k = some c) (h : BRc S L w lo (killL (kill b) c)) : BR S L w lo (killB b k) := by
  cases k with
  | pc l => cases hc; rw [killL_map (fun _ => rfl)] at h; exact h
  | gc l => cases hc; exact h
  | iter s p => cases hc
  | dead => cases hc
theorem append_sound (hi : Inv S L H w) (ht : RIs S L t vs) {ty ty2 oty : TypeId} (hs : isSliceT P ty = true) {d x : IV} {dv xv : Value} (hd : RI S L d dv) (hx : RI S L x xv)
    (hstr : (∃ s, x = .p (.v (.string s))) → P.underlying ty2 = some .string) (hsl : ¬ (∃ s, x = .p (.v (.string s))) → ∃ e', P.underlying ty2 = some (.slice e'))
    (h : appendK P H ty d x K = some out) (hrun : ∀ v w', (Builtin.append_ #[ty, ty2] oty #[dv, xv]).run P w = .ok v w' → run = .ok (.value v) w') : OpOK S L H w t vs run K out := by
  obtain ⟨e, hue⟩ := isSliceT_some hs
  have he : elemT P ty = some e := by simp [elemT, hue]
  unfold appendK at h
  rw [he] at h
  cases hsz : elemSz P ty with
  | none => simp [hsz] at h
  | some sz =>
  obtain ⟨i, h1, rfl, h3⟩ := elemSz_slice hue hsz
  simp only [hsz] at h
  split at h
  · rename_i m l ok hsrc
    have hh := chk_some h
    clear h
    obtain ⟨hz, h⟩ := hh
    simp only [Bool.and_eq_true] at hz
    obtain ⟨hz, rfl⟩ := hz
    obtain ⟨news, hl, src⟩ := srcCells_rel hi hx hsrc hstr hsl
    obtain ⟨i', z, h1', h4, h5, h6⟩ := zeroOK_some hz
    rw [h1] at h1'; cases h1'
    have hbytes : bytesT P e = i.bytes := by simp [bytesT, h1]
    split at h
    · -- onto nothing
      simp only [RI, RP] at hd
      subst hd
      obtain ⟨hb, h⟩ := chk_some h
      have hb' := mul_lt (of_decide_eq_true hb)
      rw [hbytes] at hb'
      cases hm : (m == 0) with
      | true =>
        rw [hm] at h
        have hm0 : m = 0 := by simpa using hm
        subst hm0
        have hnil : news = [] := List.eq_nil_of_length_eq_zero (by rw [src.newsLen]; simp)
        subst hnil
        have this : (Builtin.append_ #[ty, ty2] oty #[.slice none 0 0, xv]).run P w = .ok (.slice none 0 0) w := by
          rcases src.kind with ⟨e', hk⟩ | hk <;> simp [Builtin.append_, run_underlying hue, run_underlying hk, sizeOf, typeInfo, h1, src.len, src.cells]
        exact OpOK.val hi ht h rfl (hrun _ _ this)
      | false =>
        rw [hm] at h
        have hm0 : m ≠ 0 := by simpa using hm
        have := run_append_grow_src (P := P) w ty ty2 oty e i z hue h1 h4 none 0 0 [] (by simp [Builtin.firstCells]) xv m news src (by omega) (by omega) (growslice_fits (by omega) (by rw [Nat.zero_add]; omega))
        rw [Nat.zero_add] at this
        have hge := grown_ge w m 0 e
        refine newRow_sound hi ht (cs := news) (rest := (Builtin.zeroCells z.cells (grownCap w m 0 e - m)).toList) (e := e) (fr := (0, 0)) (cap := grownCap w m 0 e) (sz := i.size)
          (w' := w.drew.alloc (.cells ((([] : List Value) ++ news).toArray ++ Builtin.zeroCells z.cells (grownCap w m 0 e - m)) e)) ?_ (fun j _ => by simp) hl src.one (zeroCells_one h6 (by omega) _) src.newsLen.symm ?_ hge h3 h (hrun _ _ this)
        · have e1 : (⟨news ++ (Builtin.zeroCells z.cells (grownCap w m 0 e - m)).toList⟩ : Array Value) = (([] : List Value) ++ news).toArray ++ Builtin.zeroCells z.cells (grownCap w m 0 e - m) := by
            apply Array.ext'; simp
          rw [e1]
          exact Grew.drew w _
        · rw [src.newsLen, zeroCells_size, h5, ← Nat.add_mul]
          congr 1
          omega
    · rename_i b sz' n
      split at h
      · rename_i hszeq
        subst hszeq
        split at h
        · rename_i k hk
          split at h
          · rename_i k' hk'
            obtain ⟨hb, h⟩ := chk_some h
            have hb' := mul_lt (of_decide_eq_true hb)
            rw [hbytes] at hb'
            obtain ⟨lo, e1, e2, cap, rfl, e3, e4, e5, e6⟩ := hd
            obtain ⟨c, hc1, hc2⟩ := appendB_some hk'
            rcases hi.blk b _ hk with rfl | ⟨lo', e7, e8⟩
            · cases hc1
            rw [e1] at e7; cases e7
            obtain ⟨cs, f1, f2, f3, f4, f5, f6, f7⟩ := (BR_cells hc1).1 e8
            have hblen : b < H.length := (List.getElem?_eq_some_iff.1 hk).1
            have hbox : ∀ a, L b = some a → a.box = false := fun a h => by rw [e1] at h; cases h; exact e2
            by_cases hroom : n + m ≤ cap
            · -- there is room
              have hle : lo.len + news.length ≤ lo.size := by
                rw [src.newsLen, ← e3, ← e4, ← Nat.add_mul]
                exact Nat.mul_le_mul_right _ hroom
              have hth : ∀ j, j < news.length → (w.cell? ⟨lo.blk, lo.len + j, none⟩).isSome = true ∧ w.frozen? ⟨lo.blk, lo.len + j, none⟩ = false := fun j hj => by
                have := f5 (lo.len + j) (by omega); simpa using this
              have := run_append_room_src (P := P) w ty ty2 oty e i hue h1 lo.blk 0 n cap xv m news src hroom (fun j hj => by rw [Nat.zero_add, e3]; exact (hth j hj).1) (fun j hj => by rw [Nat.zero_add, e3]; exact (hth j hj).2)
              rw [Nat.zero_add, e3] at this
              obtain ⟨o1, o2, o3, o4, o5⟩ := World.os_setCells lo.blk news lo.len w
              have hext : Ext H.length S L w S (addL L b ⟨lo.blk, lo.size, lo.len + news.length, false⟩) (killH b (H.set b k')) (w.setCells lo.blk lo.len news) := by
                refine Ext.upd hi e1 e2 o1 o2 o3 (by omega) (fun q _ hq => o5 q hq) (.inl rfl) (by rw [o4]; exact hi.inh b lo e1) hblen fun L' hL => BR_killed hc2 ?_
                refine ⟨over cs lo.len news, by rw [over_length, f1], ?_, hle, rangeAt_over f4 _ _ (by omega), World.there_setCells f5 _ _ _, ?_, ?_⟩
                · rw [length_killL, List.length_append, f2, hl.length]
                · intro u hu
                  obtain ⟨j, hj, rfl⟩ := List.getElem_of_mem hu
                  have hg := over_get cs lo.len news (by omega) j
                  rw [List.getElem?_eq_getElem hj] at hg
                  split at hg
                  · exact src.one _ (List.mem_of_getElem? hg.symm)
                  · exact f6 _ (List.mem_of_getElem? hg.symm)
                · have ht2 : (over cs lo.len news).take (lo.len + news.length) = cs.take lo.len ++ news := by
                    apply List.ext_getElem?
                    intro j
                    rw [List.getElem?_take, over_get _ _ _ (by omega), List.getElem?_append]
                    have hlt : (cs.take lo.len).length = lo.len := by simp; omega
                    rw [hlt]
                    by_cases hj1 : j < lo.len
                    · rw [if_pos (by omega), if_neg (by omega), if_pos hj1, List.getElem?_take, if_pos hj1]
                    · rw [if_neg hj1]
                      by_cases hj2 : j < lo.len + news.length
                      · rw [if_pos hj2, if_pos (by omega)]
                      · rw [if_neg hj2, List.getElem?_eq_none (by omega)]
                  rw [ht2]
                  exact RIs_of (kill b) (fun x v h => RI_kill hbox (fun _ _ _ h => h) hL x v h) (f7.append hl)
              refine ⟨_, _, _, h, _, _, _, .inl (hrun _ _ this), hext, ⟨_, if_pos rfl, rfl, cap, rfl, ?_, e4, hroom, h3⟩, RIs_of (kill b) (fun x v h => RI_kill hbox (fun _ _ _ h => h) (fun i a hne h => by unfold addL; rw [if_neg hne]; exact h) x v h) ht⟩
              rw [Nat.add_mul, e3, src.newsLen]
            · -- a new row
              have hold : (Builtin.firstCells i.size n (.slice (some ⟨lo.blk, 0, none⟩) n cap)).run P w.drew = .ok (cs.take lo.len).toArray w.drew := by
                refine run_firstCells_some w.drew i.size n ⟨lo.blk, 0, none⟩ n cap (cs.take lo.len) ?_ ?_
                · rw [f7.length, f2, e3]
                · intro j u hj
                  rw [Addr.add_mid]
                  exact rangeAt_take f4 lo.len j u hj
              have := run_append_grow_src (P := P) w ty ty2 oty e i z hue h1 h4 (some ⟨lo.blk, 0, none⟩) n cap (cs.take lo.len) hold xv m news src (by omega) (by omega) (growslice_fits (by omega) (by omega))
              have hge := grown_ge w (n + m) cap e
              have e9 : (⟨(cs.take lo.len ++ news) ++ (Builtin.zeroCells z.cells (grownCap w (n + m) cap e - (n + m))).toList⟩ : Array Value) = (cs.take lo.len ++ news).toArray ++ Builtin.zeroCells z.cells (grownCap w (n + m) cap e - (n + m)) := by
                apply Array.ext'; simp
              rw [← e9] at this
              have hclen : (cs.take lo.len).length = lo.len := by simp; omega
              have hg := Grew.drew w (.cells ⟨(cs.take lo.len ++ news) ++ (Builtin.zeroCells z.cells (grownCap w (n + m) cap e - (n + m))).toList⟩ e)
              have hlen : (cs.take lo.len ++ news).length = (n + m) * i.size := by rw [List.length_append, hclen, src.newsLen, ← e3, Nat.add_mul]
              have hext : Ext H.length S L w S (addL L b ⟨w.heap.size, (cs.take lo.len ++ news).length + (Builtin.zeroCells z.cells (grownCap w (n + m) cap e - (n + m))).toList.length, (cs.take lo.len ++ news).length, false⟩) (killH b (H.set b k')) (w.drew.alloc (.cells ⟨(cs.take lo.len ++ news) ++ (Builtin.zeroCells z.cells (grownCap w (n + m) cap e - (n + m))).toList⟩ e)) := by
                refine Ext.upd hi e1 e2 hg.os hg.tape hg.output (by rw [hg.size]; omega) (fun q hq _ => hg.old hq) (.inr (Nat.le_refl _)) (by rw [hg.size]; simp) hblen fun L' hL => BR_killed hc2 ?_
                exact new_BRc hg.at (fun j _ => by simp) (RIs_of (kill b) (fun x v h => RI_kill hbox (fun _ _ _ h => h) hL x v h) (f7.append hl)) (fun u hu => by
                  rcases List.mem_append.1 hu with h | h
                  · exact f6 u (List.mem_of_mem_take h)
                  · exact src.one u h) (zeroCells_one h6 (by omega) _)
              refine ⟨_, _, _, h, _, _, _, .inl (hrun _ _ this), hext, ⟨_, if_pos rfl, rfl, _, rfl, hlen.symm, ?_, hge, h3⟩, RIs_of (kill b) (fun x v h => RI_kill hbox (fun _ _ _ h => h) (fun i a hne h => by unfold addL; rw [if_neg hne]; exact h) x v h) ht⟩
              rw [hlen, zeroCells_size, h5, ← Nat.add_mul]
              congr 1
              omega
          · cases h
        · cases h
      · cases h
    · cases h
  · cases h
end
end Go.Proofs.YtgldfdpdjlohiaaDoor.Iv
