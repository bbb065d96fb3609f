/- Each plain operation of the ideal machine does what the model's does; conditions: none. -/
import Derived.Test.YtfaofikhabccoaaGreatDoorJvOps5
import Derived.Laws.MakeOwn
namespace Go.Proofs.YtfaofikhabccoaaGreatDoor.Jv
open Go Go.RowKit
set_option linter.unusedVariables false
set_option linter.unusedSimpArgs false
section
variable {ρ : Type} {P : Program} {S : Mem} {L : Locs} {H : Hp} {w : World} {t : List IV} {vs : List Value} {run : Result Next} {K : IV → Option Nat → Hp → Option ρ} {out : ρ}

theorem optBound_some {a : Act} (ht : RIs S L t a.tmps.toList) {x : Option Operand} {d i : Int} (h : optBound t x d = some i) :
    (x.map a.eval = none ∧ i = d) ∨ ∃ k, x.map a.eval = some (.int k i) := by
  unfold optBound at h
  split at h
  · cases h; exact .inl ⟨rfl, rfl⟩
  · rename_i o
    split at h
    · rename_i k n he
      cases h
      have := ev_rel ht o
      rw [he] at this
      simp only [RI, RP] at this
      exact .inr ⟨k, by simp [this]⟩
    · cases h
theorem run_bounds {isSlice : Bool} {len cap : Nat} {lo hi : Option Value} {a b : Int} (hlo : (lo = none ∧ a = 0) ∨ ∃ k, lo = some (.int k a)) (hhi : (hi = none ∧ b = len) ∨ ∃ k, hi = some (.int k b))
    (h0 : 0 ≤ a) (h1 : a ≤ b) (h2 : b ≤ cap) : (Instr.sliceBounds isSlice len cap lo hi none).run P w = .ok (a.toNat, b.toNat, cap) w := by
  have e1 : ∀ (k : IntKind) (c : BoundsCode), (Instr.sliceBound (.int k b) cap c).run P w = .ok b.toNat w := fun k c => run_sliceBound (P := P) w k b cap c (by omega) h2
  have e2 : ∀ (k : IntKind) (c : BoundsCode), (Instr.sliceBound (.int k a) b.toNat c).run P w = .ok a.toNat w := fun k c => run_sliceBound (P := P) w k a b.toNat c h0 (by omega)
  rcases hhi with ⟨rfl, rfl⟩ | ⟨k, rfl⟩
  · have e3 : ((len : Int)).toNat = len := rfl
    rcases hlo with ⟨rfl, rfl⟩ | ⟨k', rfl⟩
    · simp [Instr.sliceBounds]
    · have := e2 k' .sliceB
      rw [e3] at this
      simp [Instr.sliceBounds, this]
  · rcases hlo with ⟨rfl, rfl⟩ | ⟨k', rfl⟩
    · simp [Instr.sliceBounds, e1]
    · simp [Instr.sliceBounds, e1, e2]
theorem Addr_add (b o n : Nat) : (⟨b, o, none⟩ : Addr).add n = ⟨b, o + n, none⟩ := Addr.add_mid b o n
theorem blkLen_some (hi : Inv S L H w) {b sz n : Nat} (h : blkLen? H b sz = some n) {v : Value} (hx : RI S L (.row b sz) v) : ∃ a cap, v = .slice a n cap ∧ n ≤ cap := by
  unfold blkLen? at h
  split at h
  · rename_i t l hb
    split at h
    · rename_i e
      subst e
      cases h
      obtain ⟨lo, e1, e2, a, n, cap, rfl, e3, e4, e5, e6, e9⟩ := hx
      rcases hi.blk b _ hb with e | ⟨lo', e7, cs, f1, f2, f3, f4, f5, f6, f7⟩
      · cases e
      rw [e1] at e7; cases e7
      rw [List.length_map, cellsL_len, ← e3] at f2
      have hn : n = l.length := (Nat.eq_of_mul_eq_mul_right (by omega) f2).symm
      subst hn
      exact ⟨a, cap, rfl, e5⟩
    · cases h
  · cases h
theorem bnd_some {lo hi : Option Operand} {i j n : Int} {x : Option ρ} (h : bnd lo hi i j n x = some out) (h1 : optBound t lo 0 = some i) (h2 : optBound t hi n = some j) (h0 : 0 ≤ n) : (((0 ≤ j ∧ j ≤ n) ∧ 0 ≤ i) ∧ i ≤ j) ∧ x = some out := by
  unfold bnd at h
  split at h
  · simp only [optBound, Option.some.injEq] at h1 h2
    exact ⟨by omega, h⟩
  · simp only [optBound, Option.some.injEq] at h2
    obtain ⟨g1, h⟩ := chk_some h
    obtain ⟨g2, h⟩ := chk_some h
    have := of_decide_eq_true g1
    have := of_decide_eq_true g2
    exact ⟨by omega, h⟩
  · simp only [optBound, Option.some.injEq] at h1
    obtain ⟨g1, h⟩ := chk_some h
    obtain ⟨g2, h⟩ := chk_some h
    have := of_decide_eq_true g1
    have := of_decide_eq_true g2
    exact ⟨by omega, h⟩
  · obtain ⟨g1, h⟩ := chk_some h
    obtain ⟨g2, h⟩ := chk_some h
    obtain ⟨g3, h⟩ := chk_some h
    have := of_decide_eq_true g1
    have := of_decide_eq_true g2
    have := of_decide_eq_true g3
    exact ⟨by omega, h⟩
theorem chk2 {j n : Int} {x : Option ρ} (h : chk (decide (0 ≤ j)) (chk (decide (j < n)) x) = some out) : (0 ≤ j ∧ j < n) ∧ x = some out := by
  obtain ⟨g1, h⟩ := chk_some h
  obtain ⟨g2, h⟩ := chk_some h
  exact ⟨⟨of_decide_eq_true g1, of_decide_eq_true g2⟩, h⟩
theorem slice_sound {a : Act} (ht : RIs S L t a.tmps.toList) {ty : TypeId} {x : IV} {xv : Value} (hx : RI S L x xv) {lo hi : Option Operand} {Kv : IV → Option ρ} (hi' : Inv S L H w) (h : sliceK P H ty x lo hi t Kv = some out) :
    ∃ y v, Kv y = some out ∧ RI S L y v ∧ (Instr.sliceAt ty xv (lo.map a.eval) (hi.map a.eval) none).run P w = .ok v w := by
  unfold sliceK at h
  have rows : ∀ (n cap : Nat) (ad : Option Addr) (sz : Nat) (i j : Int) (e : TypeId), P.underlying ty = some (.slice e) → elemSz P ty = some sz → n ≤ cap → optBound t lo 0 = some i → optBound t hi n = some j → 0 ≤ i → i ≤ j → j ≤ n →
      (Instr.sliceAt ty (.slice ad n cap) (lo.map a.eval) (hi.map a.eval) none).run P w = .ok (.slice (if cap = i.toNat then ad else ad.map (·.add (i.toNat * sz))) (j.toNat - i.toNat) (cap - i.toNat)) w := by
    intro n cap ad sz i j e hu hsz hnc h1 h2 h3 h4 h5
    obtain ⟨inf, g1, rfl, g3⟩ := elemSz_slice hu hsz
    have := run_bounds (P := P) (w := w) (isSlice := true) (len := n) (cap := cap) (optBound_some ht h1) (optBound_some ht h2) h3 h4 (by omega)
    simp only [Instr.sliceAt, Sem.run_bind, run_underlying hu, Result.andThen_ok, Instr.slice, this, sizeOf, typeInfo, run_program, g1, Sem.run_pure]
  split at h
  · rename_i s
    simp only [RI, RP] at hx
    subst hx
    split at h
    · rename_i hstr
      have hu := isStrT_some hstr
      split at h
      · rename_i i j h1 h2
        rw [slen_size] at h h2
        have hh := bnd_some h h1 h2 (by omega)
        clear h
        obtain ⟨hc, h⟩ := hh
        have := run_bounds (P := P) (w := w) (isSlice := false) (len := s.size) (cap := s.size) (optBound_some ht h1) (optBound_some ht h2) hc.1.2 hc.2 hc.1.1.2
        refine ⟨_, _, h, rfl, ?_⟩
        have he : (⟨⟨(s.data.toList.drop i.toNat).take (j.toNat - i.toNat)⟩⟩ : ByteArray) = s.extract i.toNat j.toNat := by
          apply ByteArray.ext
          rw [ByteArray.data_extract]
          apply Array.ext'
          simp
        rw [he]
        simp [Instr.sliceAt, run_underlying hu, Instr.slice, this]
      · cases h
    · cases h
  · rename_i q l
    split at h
    · rename_i sz i j g1 g2 g3 g4
      split at h
      · rename_i hs
        subst hs
        obtain ⟨e, hu⟩ := isSliceT_some g1
        have hh := bnd_some h g3 g4 (by omega)
        clear h
        obtain ⟨hc, h⟩ := hh
        obtain ⟨ad, cap, rfl, h1, h2⟩ := RP_sl.1 hx
        refine ⟨_, _, h, ?_, rows l.length cap ad (sizeTy q) i j e hu g2 h1 g3 g4 hc.1.2 hc.2 hc.1.1.2⟩
        have hlen : ((l.drop i.toNat).take (j.toNat - i.toNat)).length = j.toNat - i.toNat := by simp; omega
        refine RP_sl.2 ⟨_, _, by rw [hlen], by rw [hlen]; omega, ?_⟩
        by_cases hz : j.toNat - i.toNat = 0
        · exact .inl (by rw [hz, List.take_zero])
        · rcases h2 with rfl | ⟨b, o, rfl, h2⟩
          · simp at hc; omega
          · right
            rw [if_neg (by omega)]
            refine ⟨b, o + i.toNat * sizeTy q, by simp [Addr_add], ?_⟩
            rw [cellsL_take, cellsL_drop]
            exact RPm_take (RPm_drop h2 _) _
      · cases h
    · cases h
  · rename_i c sz'
    split at h
    · rename_i n hn
      split at h
      · rename_i sz i j g1 g2 g3 g4
        obtain ⟨e, hu⟩ := isSliceT_some g1
        split at h
        · rename_i hs
          subst hs
          have hh := bnd_some h g3 g4 (by omega)
          clear h
          obtain ⟨hc, h⟩ := hh
          obtain ⟨a1, cap1, q1, q2⟩ := blkLen_some hi' hn hx
          obtain ⟨lo', e1, e2, ad, n', cap, rfl, e3, e4, e5, e6, e9⟩ := hx
          cases q1
          refine ⟨_, _, h, ?_, rows n cap1 _ sz i j e hu g2 e5 g3 g4 hc.1.2 hc.2 hc.1.1.2⟩
          refine ⟨lo', e1, e2, _, _, rfl, by omega, ?_, e6, ?_⟩
          · rw [← e3]; exact Nat.mul_le_mul_right _ (by omega)
          · by_cases hz : j.toNat - i.toNat = 0
            · exact .inl hz
            · right
              rw [if_neg (by omega)]
              rcases e9 with rfl | ⟨e9, _⟩
              · simp [Addr_add]
              · have : n * sz = 0 := by
                  have h1 : n * sz ≤ cap1 * sz := Nat.mul_le_mul_right _ e5
                  omega
                rcases Nat.mul_eq_zero.1 this with h | h <;> omega
        · cases h
      · cases h
    · cases h
  · rename_i c sz' off n
    split at h
    · rename_i sz i j g1 g2 g3 g4
      obtain ⟨e, hu⟩ := isSliceT_some g1
      split at h
      · rename_i hs
        subst hs
        have hh := bnd_some h g3 g4 (by omega)
        clear h
        obtain ⟨hc, h⟩ := hh
        obtain ⟨lo', e1, e2, ad, cap, rfl, e3, e4, e5, e6⟩ := hx
        refine ⟨_, _, h, ?_, rows n cap _ sz i j e hu g2 e3 g3 g4 hc.1.2 hc.2 hc.1.1.2⟩
        refine ⟨lo', e1, e2, _, _, rfl, by omega, ?_, e5, ?_⟩
        · have : (off + i.toNat + (j.toNat - i.toNat)) * sz ≤ (off + n) * sz := Nat.mul_le_mul_right _ (by omega)
          omega
        · by_cases hz : j.toNat - i.toNat = 0
          · exact .inl hz
          · rcases e6 with rfl | rfl
            · omega
            · right; rw [if_neg (by omega)]; simp [Addr_add, Nat.add_mul]
      · cases h
    · cases h
  · rename_i c sz' k off
    split at h
    · rename_i n e sz m hu hsz hm
      split at h
      · rename_i i j g3 g4
        split at h
        · rename_i hs
          obtain ⟨rfl, rfl, hkm⟩ := hs
          have hh := bnd_some h g3 g4 (by omega)
          clear h
          obtain ⟨hc, h⟩ := hh
          obtain ⟨lo', e1, e2, rfl⟩ := hx
          have hi0 : ∃ inf, P.info? e = some inf ∧ inf.size = sz := by
            simp only [elemSz, elemT, hu] at hsz
            cases hs : sizeT P e with
            | none => simp [hs] at hsz
            | some m =>
              obtain ⟨inf, g1, g2⟩ := sizeT_some hs
              cases m with
              | zero => simp [hs] at hsz
              | succ m => simp [hs] at hsz; exact ⟨inf, g1, by omega⟩
          obtain ⟨inf, g1, g2⟩ := hi0
          have hrun : (Instr.sliceAt ty (.pointer (some ⟨lo'.blk, k * sz + 0, none⟩)) (lo.map a.eval) (hi.map a.eval) none).run P w = .ok (.slice (some (if n = i.toNat then ⟨lo'.blk, k * sz + 0, none⟩ else (⟨lo'.blk, k * sz + 0, none⟩ : Addr).add (i.toNat * sz))) (j.toNat - i.toNat) (n - i.toNat)) w := by
            have := run_bounds (P := P) (w := w) (isSlice := false) (len := n) (cap := n) (optBound_some ht g3) (optBound_some ht g4) hc.1.2 hc.2 (by omega)
            simp only [Instr.sliceAt, Sem.run_bind, run_underlying hu, Result.andThen_ok, Instr.sureAddr, this, sizeOf, typeInfo, run_program, g1, g2, Sem.run_pure]
          have hlen : m * sz = lo'.len ∧ sz ≠ 0 := by
            unfold blkLen? at hm
            split at hm
            · rename_i q l hb
              split at hm
              · rename_i e
                cases hm
                rcases hi'.blk c _ hb with f0 | ⟨lo2, f1, cs, f2, f3, f4, f5, f6, f7, f8⟩
                · cases f0
                · rw [e1] at f1; cases f1
                  rw [List.length_map, cellsL_len, ← e] at f3
                  exact ⟨f3, by have := sizeTy_pos q; omega⟩
              · cases hm
            · cases hm
          refine ⟨_, _, h, ?_, hrun⟩
          refine ⟨lo', e1, e2, _, _, rfl, by omega, ?_, hlen.2, ?_⟩
          · rw [← hlen.1]
            exact Nat.mul_le_mul_right _ (by omega)
          · by_cases hz : j.toNat - i.toNat = 0
            · exact .inl hz
            · right
              rw [if_neg (by omega)]
              simp [Addr_add, Nat.add_mul]
        · cases h
      · cases h
    · cases h
  · cases h

theorem indexAddr_sound {ty : TypeId} {x i : IV} {xv iv : Value} (hi' : Inv S L H w) (hx : RI S L x xv) (hiv : RI S L i iv) {Kv : IV → Option ρ} (h : indexAddrK P H ty x i Kv = some out) :
    ∃ y v, Kv y = some out ∧ RI S L y v ∧ (Instr.indexAt ty xv iv).run P w = .ok v w := by
  unfold indexAddrK at h
  split at h
  · rename_i k j sz hsz
    simp only [RI, RP] at hiv
    subst hiv
    have rows : ∀ (n cap : Nat) (ad : Addr) (e : TypeId), P.underlying ty = some (.slice e) → 0 ≤ j → j < n → (Instr.indexAt ty (.slice (some ad) n cap) (.int k j)).run P w = .ok (.pointer (some (ad.add (j.toNat * sz)))) w := by
      intro n cap ad e hu h0 h1
      obtain ⟨inf, g1, rfl, g3⟩ := elemSz_slice hu hsz
      simp [Instr.indexAt, asIntOf, run_underlying hu, sizeOf, typeInfo, g1, h0, h1]
    have arrs : ∀ (n : Nat) (ad : Addr) (e : TypeId), P.underlying ty = some (.array n e) → 0 ≤ j → j < n → (Instr.indexAt ty (.pointer (some ad)) (.int k j)).run P w = .ok (.pointer (some (ad.add (j.toNat * sz)))) w := by
      intro n ad e hu h0 h1
      have : ∃ inf, P.info? e = some inf ∧ inf.size = sz := by
        simp only [elemSz, elemT, hu] at hsz
        cases hs : sizeT P e with
        | none => simp [hs] at hsz
        | some m =>
          obtain ⟨inf, g1, g2⟩ := sizeT_some hs
          cases m with
          | zero => simp [hs] at hsz
          | succ m => simp [hs] at hsz; exact ⟨inf, g1, by omega⟩
      obtain ⟨inf, g1, rfl⟩ := this
      simp [Instr.indexAt, asIntOf, run_underlying hu, sizeOf, typeInfo, g1, h0, h1, Instr.sureAddr]
    split at h
    · rename_i q l
      split at h
      · rename_i hs
        obtain ⟨hs, hsq⟩ := hs
        obtain ⟨e, hu⟩ := isSliceT_some hs
        obtain ⟨hc, h⟩ := chk_some h
        simp only [decide_eq_true_eq] at hc
        obtain ⟨x, hxj, h⟩ := getK_some h
        have hjl := (List.getElem?_eq_some_iff.1 hxj).1
        obtain ⟨ad, cap, rfl, h1, h2⟩ := RP_sl.1 hx
        rcases h2 with rfl | ⟨b, o, rfl, h2⟩
        · simp at hjl
        · refine ⟨_, _, h, ?_, rows l.length cap _ e hu hc (by omega)⟩
          rw [Addr_add, hsq]
          refine ⟨b, _, rfl, ?_⟩
          rw [← cellsL_get hxj]
          exact RPm_take (RPm_drop h2 _) _
      · cases h
    · rename_i b sz'
      split at h
      · rename_i n hn
        split at h
        · rename_i hs
          obtain ⟨e, hu⟩ := isSliceT_some hs.1
          have hh := chk2 h
          clear h
          obtain ⟨hc, h⟩ := hh
          obtain ⟨a1, cap1, q1, q2⟩ := blkLen_some hi' hn hx
          obtain ⟨lo', e1, e2, ad, n', cap, rfl, e3, e4, e5, e6, e9⟩ := hx
          cases q1
          rcases e9 with rfl | ⟨e9, _⟩
          · refine ⟨_, _, h, ?_, rows n cap1 _ e hu hc.1 hc.2⟩
            rw [Addr_add, Nat.zero_add, hs.2]
            exact ⟨lo', e1, e2, rfl⟩
          · have : n * sz' = 0 := by
              have h1 : n * sz' ≤ cap1 * sz' := Nat.mul_le_mul_right _ e5
              omega
            rcases Nat.mul_eq_zero.1 this with h | h <;> omega
        · cases h
      · cases h
    · rename_i b sz' off n
      split at h
      · rename_i hs
        obtain ⟨e, hu⟩ := isSliceT_some hs.1
        have hh := chk2 h
        clear h
        obtain ⟨hc, h⟩ := hh
        obtain ⟨lo', e1, e2, ad, cap, rfl, e3, e4, e5, e6⟩ := hx
        rcases e6 with rfl | rfl
        · omega
        · refine ⟨_, _, h, ?_, rows n cap _ e hu hc.1 hc.2⟩
          rw [Addr_add, hs.2]
          exact ⟨lo', e1, e2, by rw [Nat.add_mul]; rfl⟩
      · cases h
    · rename_i b off
      split at h
      · rename_i len e hu
        have hh := chk2 h
        clear h
        obtain ⟨hc, h⟩ := hh
        obtain ⟨lo', e1, e2, rfl⟩ := hx
        refine ⟨_, _, h, ?_, arrs len _ e hu hc.1 hc.2⟩
        rw [Addr_add]
        exact ⟨lo', e1, e2, rfl⟩
      · cases h
    · rename_i b sz' k' off
      split at h
      · rename_i len e hu
        have hh := chk2 h
        clear h
        obtain ⟨hc, h⟩ := hh
        obtain ⟨lo', e1, e2, rfl⟩ := hx
        refine ⟨_, _, h, ?_, arrs len _ e hu hc.1 hc.2⟩
        rw [Addr_add, Nat.add_assoc]
        split
        · rename_i hs
          exact ⟨lo', e1, e2, by rw [hs, Nat.add_mul, Nat.add_assoc, Nat.add_comm off]⟩
        · exact ⟨lo', e1, e2, rfl⟩
      · cases h
    · cases h
  · cases h

/-! ### Conversions -/
theorem foldl_push (l : List UInt8) (s : ByteArray) : l.foldl (fun r b => r.push b) s = ⟨⟨s.data.toList ++ l⟩⟩ := by
  induction l generalizing s with
  | nil => simp
  | cons b l ih => rw [List.foldl_cons, ih]; congr 1; apply Array.ext'; simp [ByteArray.push]
theorem isU8_some {ty : TypeId} {e : TypeId} (hu : P.underlying ty = some (.slice e)) (h : isU8 P ty = true) : P.underlying e = some (.int .u8) := by
  unfold isU8 at h
  simp only [elemT, hu] at h
  split at h
  · assumption
  · cases h
theorem modify_push {α : Type} (a : Array α) (x : α) (f : α → α) : (a.push x).modify a.size f = a.push (f x) := by
  apply Array.ext
  · simp
  · intro i h1 h2
    simp only [Array.getElem_modify, Array.getElem_push]
    by_cases h : i < a.size
    · simp [h, Nat.ne_of_gt h]
    · have : i = a.size := by simp at h2; omega
      subst this
      simp
theorem same_sound (hi : Inv S L H w) (ht : RIs S L t vs) {src dst : TypeId} {x : IV} {v : Value} (hx : RI S L x v) (h : sameK P H src dst x K = some out)
    (hrun : ∀ y w', (convert src dst v).run P w = .ok y w' → run = .ok (.value y) w') : OpOK S L H w t vs run K out := by
  unfold sameK at h
  split at h
  · rename_i b sz
    split at h
    · rename_i hc
      obtain ⟨rfl, hs, h8⟩ := hc
      split at h
      · rename_i y l hb
        obtain ⟨e, hu⟩ := isSliceT_some hs
        have hu8 := isU8_some hu h8
        obtain ⟨lo, e1, e2, a, n, cap, rfl, e3, e4, e5, e6, e9⟩ := hx
        rcases hi.blk b _ hb with q | ⟨lo', q1, q2⟩
        · cases q
        rw [e1] at q1; cases q1
        obtain ⟨cs, f1, f2, f3, f4, f5, f6, f7⟩ := q2
        have f2' : lo.len ≠ 0 := by
          rw [← f2, List.length_map, cellsL_len]
          simp [sizeTy]
        have hz : lo.size ≠ 0 := by omega
        have ha : a = some ⟨lo.blk, 0, none⟩ := by
          rcases e9 with e9 | ⟨e9, _⟩
          · exact e9
          · exact absurd e9 hz
        subst ha
        obtain ⟨c, tt, fr, hh⟩ : ∃ c tt fr, w.heap[lo.blk]? = some (.cells c tt fr) := by
          have := (f5.1 0 (by omega)).1
          unfold World.cell? at this
          split at this
          · rename_i c tt fr hh; exact ⟨c, tt, fr, hh⟩
          · cases this
        have hcsz : lo.size ≤ c.size := by
          have := (f5.1 (lo.size - 1) (by omega)).1
          rw [cell_of_heap hh] at this
          obtain ⟨u, hu'⟩ := Option.isSome_iff_exists.1 this
          have := (Array.getElem?_eq_some_iff.1 hu').1
          omega
        have hfr := f5.2 hz _ _ _ hh
        have hnf : ∀ j, j < lo.size → ¬ (fr.1 ≤ j ∧ j < fr.2) := fun j hj hn => by
          have := (f5.1 j hj).2
          unfold World.frozen? at this
          simp only [hh] at this
          simp at this
          omega
        let fr' : Nat × Nat := if fr.1 == fr.2 then (c.size, c.size + 1) else (min fr.1 c.size, max fr.2 (c.size + 1))
        have hh' : (w.freeze ⟨lo.blk, c.size, none⟩ 1).heap[lo.blk]? = some (.cells c tt fr') := by
          unfold World.freeze
          simp only [Nat.one_ne_zero, if_false, Array.getElem?_modify, if_true, hh]
          rfl
        have hfr1 : ∀ j, j < lo.size → ¬ (fr'.1 ≤ j ∧ j < fr'.2) := fun j hj => by
          have h0 := hnf j hj
          have h1 := hnf 0 (by omega)
          have h2 := hnf (lo.size - 1) (by omega)
          have h3 : fr.1 < fr.2 → lo.size ≤ fr.1 := fun hlt => by
            rcases Nat.lt_or_ge fr.1 lo.size with h | h
            · exact absurd ⟨Nat.le_refl _, hlt⟩ (hnf fr.1 h)
            · exact h
          show ¬ ((if fr.1 == fr.2 then (c.size, c.size + 1) else (min fr.1 c.size, max fr.2 (c.size + 1)) : Nat × Nat).1 ≤ j ∧ _)
          split
          · simp only; omega
          · rename_i hne
            simp only [beq_iff_eq] at hne
            have := h3 (by omega)
            simp only
            omega
        have hfr2 : fr'.1 ≤ fr'.2 := by
          show (if fr.1 == fr.2 then (c.size, c.size + 1) else (min fr.1 c.size, max fr.2 (c.size + 1)) : Nat × Nat).1 ≤ (if fr.1 == fr.2 then (c.size, c.size + 1) else (min fr.1 c.size, max fr.2 (c.size + 1)) : Nat × Nat).2
          split <;> simp only <;> omega
        have hrun' : (convert src src (.slice (some ⟨lo.blk, 0, none⟩) n cap)).run P w = .ok (.slice (some ⟨lo.blk, 0, none⟩) n cap) (w.freeze ⟨lo.blk, c.size, none⟩ 1) := by
          have hsh : w.shape? lo.blk = some (tt, c.size) := by unfold World.shape?; rw [hh]
          simp [convert, run_underlying hu, run_underlying hu8, markStringish, hsh]
        have hput := Ext.put (w' := w.freeze ⟨lo.blk, c.size, none⟩ 1) (k := .tc .u8 (y :: l)) hi e1 hz (by unfold World.freeze; simp) (by unfold World.freeze; simp) (by unfold World.freeze; simp) (by unfold World.freeze; simp)
          (fun q hq => by unfold World.freeze; simp [Array.getElem?_modify, Ne.symm hq]) (List.getElem?_eq_some_iff.1 hb).1
          ⟨cs, f1, f2, f3, (fun j v hj => by
            have := f4 j v hj
            rw [cell_of_heap hh] at this
            rw [cell_of_heap hh']; exact this), ⟨fun j hj => by
            have := (f5.1 j hj).1
            rw [cell_of_heap hh] at this
            exact ⟨by rw [cell_of_heap hh']; exact this, frozen_of_heap hh' _ (by rw [Nat.zero_add]; exact hfr1 j hj)⟩, fun _ c' t' f' hq => by rw [hh'] at hq; cases hq; exact hfr2⟩, f6, f7⟩
        have hset : H.set b (.tc .u8 (y :: l)) = H := by
          apply List.ext_getElem?
          intro j
          by_cases hj : b = j
          · subst hj; rw [List.getElem?_set_self (List.getElem?_eq_some_iff.1 hb).1, hb]
          · rw [List.getElem?_set_ne hj]
        rw [hset] at hput
        exact ⟨_, _, _, h, _, _, _, .inl (hrun _ _ hrun'), hput, ⟨lo, e1, e2, _, n, cap, rfl, e3, e4, e5, e6, .inl rfl⟩, ht⟩
      · cases h
    · cases h
  · cases h
theorem convert_sound (hi : Inv S L H w) (ht : RIs S L t vs) {src dst : TypeId} {x : IV} {v : Value} (hx : RI S L x v) (h : convertK P H src dst x K = some out)
    (hrun : ∀ y w', (convert src dst v).run P w = .ok y w' → run = .ok (.value y) w') : OpOK S L H w t vs run K out := by
  unfold convertK at h
  split at h
  · rename_i k n
    simp only [RI, RP] at hx
    subst hx
    split at h
    · rename_i d k' h1 h2
      exact OpOK.val hi ht h rfl (hrun _ _ (by simp [convert, run_underlying h1, run_underlying h2, Conv.intToInt]))
    · rename_i d h1 h2
      refine OpOK.val hi ht h rfl (hrun _ _ ?_)
      simp [convert, run_underlying h1, run_underlying h2, Conv.intToString]
    · cases h
  · rename_i s
    simp only [RI, RP] at hx
    subst hx
    split at h
    · rename_i h1
      split at h
      · rename_i h2
        exact OpOK.val hi ht h rfl (hrun _ _ (by simp [convert, run_underlying h1, run_underlying (isStrT_some h2)]))
      · split at h
        · rename_i h2 h3
          obtain ⟨e, hu⟩ := isSliceT_some h3.1
          have hu8 := isU8_some hu h3.2
          have hge := grown_ge w s.size 0 e
          let cs : List Value := s.data.toList.map fun b => .int .u8 (b.toNat : Int)
          have hcs : cs.length = s.size := by simp [cs]
          let rest : List Value := List.replicate (grownCap w s.size 0 e - s.size) (.int .u8 0)
          have hrl : rest.length = grownCap w s.size 0 e - s.size := by simp [rest]
          let w' : World := { w.drew with heap := w.heap.push (.cells ⟨cs ++ rest⟩ e (grownCap w s.size 0 e, grownCap w s.size 0 e + 1)) }
          have hg : Grew w w' (.cells ⟨cs ++ rest⟩ e (grownCap w s.size 0 e, grownCap w s.size 0 e + 1)) := ⟨rfl, rfl, rfl, rfl⟩
          have hrun' : (convert src dst (.string s)).run P w = .ok (.slice (some ⟨w.heap.size, 0, none⟩) s.size (grownCap w s.size 0 e)) w' := by
            have hsz : (s.data.map fun b => Value.int .u8 (b.toNat : Int)) ++ Array.replicate (grownCap w s.size 0 e - s.size) (Value.int .u8 0) = ⟨cs ++ rest⟩ := by
              apply Array.ext'; simp [cs, rest]
            have hlen : (⟨cs ++ rest⟩ : Array Value).size = grownCap w s.size 0 e := by
              show (cs ++ rest).length = _
              rw [List.length_append, hcs, hrl]; omega
            simp only [convert, Sem.run_bind, run_underlying h1, run_underlying hu, run_underlying hu8, Result.andThen_ok, Conv.stringToBytes, run_choose, Question.forced, Bool.false_eq_true, if_false]
            change (Result.andThen ((newRow e ((s.data.map fun b => Value.int .u8 (b.toNat : Int)) ++ Array.replicate (grownCap w s.size 0 e - s.size) (Value.int .u8 0))).run P w.drew) _) = _
            rw [hsz]
            simp only [newRow, Sem.run_bind, run_newObj, Result.andThen_ok, Sem.run_pure, markStringish, run_shape, World.shape?]
            have hat : (w.drew.heap.push (Obj.cells ⟨cs ++ rest⟩ e))[w.drew.heap.size]? = some (Obj.cells ⟨cs ++ rest⟩ e) := Array.getElem?_push_size
            simp only [hat, run_freeze, Result.andThen_ok, World.freeze, hlen, Nat.one_ne_zero, if_false]
            have := modify_push w.heap (Obj.cells ⟨cs ++ rest⟩ e) (fun
              | .cells c elem (lo, hi) => .cells c elem (if lo == hi then (grownCap w s.size 0 e, grownCap w s.size 0 e + 1) else (min lo (grownCap w s.size 0 e), max hi (grownCap w s.size 0 e + 1)))
              | o => o)
            exact congrArg (fun h => Result.ok (Value.slice (some ⟨w.heap.size, 0, none⟩) s.size (grownCap w s.size 0 e)) ({ w.drew with heap := h } : World)) this
          exact newRow_sound hi ht (q := .u8) hg (fun i hi => by rw [hcs, hrl] at hi; simp only; omega) (encB_rel _) (fun v hv => by
            simp only [cs, List.mem_map] at hv; obtain ⟨b, _, rfl⟩ := hv; rfl) (fun v hv => by rw [List.eq_of_mem_replicate hv]; rfl) (n := s.size) (by simp) (by rw [hcs, hrl]; simp only [sizeTy, Nat.mul_one]; omega) hge h (hrun _ _ hrun')
        · cases h
    · cases h
  · rename_i hn1 hn2
    split at h
    · rename_i hc
      obtain ⟨e, hu⟩ := isSliceT_some hc.1
      have hu8 := isU8_some hu hc.2.1
      have hst := isStrT_some hc.2.2
      obtain ⟨l, h1, a, cap, cs, rfl, h2, h3, h4, h5⟩ := srcT_sound hi hx h
      refine OpOK.val hi ht h1 rfl (hrun _ _ ?_)
      have hcs : cs = (l.map fun b => (b.toNat : Int)).map (Value.int .u8) := by
        clear h h1 h2 h4 h5 hrun hx
        induction l generalizing cs with
        | nil => simpa [cellsL, RPs] using h3
        | cons b l ih =>
          obtain ⟨v, r, rfl, g1, g2⟩ := h3
          simp only [RP] at g1
          subst g1
          rw [ih r g2]; rfl
      simp only [convert, Sem.run_bind, run_underlying hu, run_underlying hst, run_underlying hu8, Result.andThen_ok]
      have fin : (l.map fun b => (b.toNat : Int)).foldl (fun r n => r.push (UInt8.ofNat n.toNat)) ByteArray.empty = ⟨⟨l⟩⟩ := by
        have := foldl_push l ByteArray.empty
        rw [List.foldl_map]
        simp only [Int.toNat_natCast, UInt8.ofNat_toNat]
        rw [this]
        simp
      rcases h5 with rfl | ⟨b, o, rfl, _, h5⟩
      · simp only [List.map_nil] at hcs
        subst hcs
        cases a with
        | none => simp [Conv.bytesToString]; rfl
        | some a =>
          have := run_bytesToString (P := P) w a 0 cap [] (by simp [loadCells, loadCellsFrom])
          exact this
      · have := run_bytesToString (P := P) w ⟨b, o, none⟩ l.length cap (l.map fun b => (b.toNat : Int)) (by
          have := run_loadCells_list (P := P) w ⟨b, o, none⟩ cs (fun j v hv => by rw [Addr_add]; exact h5 j v hv)
          rw [hcs] at this
          simpa using this)
        rw [this, fin]
    · exact same_sound hi ht hx h hrun

/-! ### New rows -/
theorem cellsT_one : ∀ (t : Ty) (x : T t) {cs : List Value}, RPs S (cellsT t x) cs → ∀ v ∈ cs, v.oneCell' = true
  | .int k, x, cs, h, v, hv => by obtain ⟨u, r, rfl, h1, h2⟩ := h; rw [RPs_nil] at h2; subst h2; simp only [RP] at h1; subst h1; simp at hv; subst hv; rfl
  | .u8, x, cs, h, v, hv => by obtain ⟨u, r, rfl, h1, h2⟩ := h; rw [RPs_nil] at h2; subst h2; simp only [RP] at h1; subst h1; simp at hv; subst hv; rfl
  | .bool, x, cs, h, v, hv => by obtain ⟨u, r, rfl, h1, h2⟩ := h; rw [RPs_nil] at h2; subst h2; simp only [RP] at h1; subst h1; simp at hv; subst hv; rfl
  | .str, x, cs, h, v, hv => by obtain ⟨u, r, rfl, h1, h2⟩ := h; rw [RPs_nil] at h2; subst h2; simp only [RP] at h1; subst h1; simp at hv; subst hv; rfl
  | .err, x, cs, h, v, hv => by obtain ⟨u, r, rfl, h1, h2⟩ := h; rw [RPs_nil] at h2; subst h2; simp at hv; subst hv; obtain ⟨_, rfl⟩ | ⟨_, t, u, rfl⟩ := h1 <;> rfl
  | .sl t, x, cs, h, v, hv => by obtain ⟨u, r, rfl, ⟨a, cap, rfl, _⟩, h2⟩ := h; rw [RPs_nil] at h2; subst h2; simp at hv; subst hv; rfl
  | .opt t, x, cs, h, v, hv => by obtain ⟨u, r, rfl, h1, h2⟩ := h; rw [RPs_nil] at h2; subst h2; simp at hv; subst hv; obtain ⟨_, rfl⟩ | ⟨y, b, o, _, rfl, _⟩ := h1 <;> rfl
  | .pair p q, x, cs, h, v, hv => by
    obtain ⟨a, b, rfl, h1, h2⟩ := RPs_append h
    rcases List.mem_append.1 hv with hv | hv
    · exact cellsT_one p _ h1 v hv
    · exact cellsT_one q _ h2 v hv
theorem cellsL_one (t : Ty) {l : List (T t)} {cs : List Value} (h : RPs S (cellsL t l) cs) : ∀ v ∈ cs, v.oneCell' = true := by
  induction l generalizing cs with
  | nil => simp only [cellsL] at h; rw [RPs_nil] at h; subst h; intro v hv; cases hv
  | cons x l ih =>
    obtain ⟨a, b, rfl, h1, h2⟩ := RPs_append h
    intro v hv
    rcases List.mem_append.1 hv with hv | hv
    · exact cellsT_one t x h1 v hv
    · exact ih h2 v hv
theorem decRow_sound {t : Ty} {n : Nat} {l : List PV} {Kl : List (T t) → Option ρ} (h : decRow t n l Kl = some out) : ∃ xs, Kl xs = some out ∧ xs.length = n ∧ ∀ S vs, RPs S l vs → RPs S (cellsL t xs) vs := by
  induction n generalizing l Kl with
  | zero =>
    cases l with
    | nil => exact ⟨[], h, rfl, fun S vs h => h⟩
    | cons _ _ => cases h
  | succ n ih =>
    simp only [decRow] at h
    obtain ⟨x, r, h1, h2, h3⟩ := decT_sound t h
    obtain ⟨xs, h4, h5, h6⟩ := ih h1
    refine ⟨x :: xs, h4, by simp [h5], fun S vs hv => ?_⟩
    obtain ⟨a, b, rfl, g1, g2⟩ := RPs_append (h3 S vs hv)
    exact g1.append (h6 S _ g2)
theorem newRowK_sound (hi : Inv S L H w) (ht : RIs S L t vs) {ty : TypeId} {n sz : Nat} {l : List IV} {cs : List Value} {e : TypeId} (h : newRowK P H ty n l K = some out) (hl : RIs S L l cs)
    (hlen : cs.length = n * sz) (hsz : ∀ q, elTy P ty = some q → sz = sizeTy q) (hrun : run = .ok (.value (.slice (some ⟨w.heap.size, 0, none⟩) n n)) (w.alloc (.cells ⟨cs⟩ e))) : OpOK S L H w t vs run K out := by
  unfold newRowK at h
  split at h
  · rename_i q ps hq hps
    obtain ⟨h0, h⟩ := chk_some h
    obtain ⟨xs, h1, h2, h3⟩ := decRow_sound h
    rw [allP_some hps] at hl
    have h4 := h3 S cs (RIs_mapP.1 hl)
    have hg := Grew.alloc w (.cells ⟨cs⟩ e)
    have hsq := hsz q hq
    subst hsq
    exact newRow_sound hi ht (q := q) (cs := cs) (rest := []) (e := e) (fr := (0, 0)) (w' := w.alloc (.cells ⟨cs⟩ e)) (by simpa using hg) (fun j _ => by simp) h4 (cellsL_one q h4) (fun _ h => by cases h) h2.symm (by simp [hlen]) (Nat.le_refl _) h1 hrun
  · cases h
theorem isIntT_some {t : TypeId} (h : isIntT P t = true) : ∃ k, P.underlying t = some (.int k) := by
  unfold isIntT at h
  split at h
  · rename_i k hk; exact ⟨k, hk⟩
  · cases h
/-- A new array, told as a row. -/
theorem newArr_sound (hi : Inv S L H w) (ht : RIs S L t vs) {n : Nat} {q : Ty} {l : List PV} {cs : List Value} {e : TypeId} (h : newArrK H n q l K = some out) (hl : RPs S l cs)
    (hrun : run = .ok (.value (.pointer (some ⟨w.heap.size, 0, none⟩))) (w.alloc (.cells ⟨cs⟩ e))) : OpOK S L H w t vs run K out := by
  unfold newArrK at h
  obtain ⟨xs, h1, h2, h3⟩ := decRow_sound h
  have h4 := h3 S cs hl
  have hg := Grew.alloc w (.cells ⟨cs⟩ e)
  have hx := new_ext (box := false) (rest := []) hi (w' := w.alloc (.cells ⟨cs⟩ e)) (k := .tc q xs) rfl (e := e) (fr := (0, 0)) (by simpa using hg) (fun i _ => by simp) (RIs_mapP.2 h4) (cellsL_one q h4) (fun _ h => by cases h)
  exact ⟨_, _, _, h1, _, _, _, .inl hrun, hx, ⟨_, if_pos rfl, rfl, by simp⟩, ht.mono (fun _ _ _ h => h) (hold hi)⟩
theorem elTy_sz {ty : TypeId} {q : Ty} (h : elTy P ty = some q) : elemSz P ty = some (sizeTy q) := by
  unfold elTy at h
  split at h
  · split at h
    · split at h
      · rename_i hs; cases h; exact hs
      · cases h
    · cases h
  · cases h
theorem make_sound (hi : Inv S L H w) (ht : RIs S L t vs) {ty : TypeId} {n : Int} (h : makeK P H ty n K = some out)
    (hrun : ∀ v w', (Instr.makeSlice ty (.int .i64 n) (.int .i64 n)).run P w = .ok v w' → run = .ok (.value v) w') : OpOK S L H w t vs run K out := by
  unfold makeK at h
  split at h
  · rename_i e q he hq
    split at h
    · rename_i z hz
      have hh := chk_some h
      clear h
      obtain ⟨hc, h⟩ := hh
      simp only [Bool.and_eq_true] at hc
      obtain ⟨h1, h2⟩ := hc
      have hh := chk_some h
      clear h
      obtain ⟨h3, h⟩ := hh
      have h3 := of_decide_eq_true h3
      have hh := chk_some h
      clear h
      obtain ⟨h4, h⟩ := hh
      obtain ⟨e', hue⟩ := isSliceT_some h1
      have : e' = e := by simpa [elemT, hue] using he
      subst this
      obtain ⟨x, r, h5, h6, h7⟩ := decT_sound q h
      split at h5
      · obtain ⟨i, z', g1, g2, g3, g4⟩ := zeroOK_some h2
        have hzz : z' = z := by
          obtain ⟨i', g5, g6⟩ := zeroT_some hz
          rw [g1] at g5; cases g5
          rw [g2] at g6; cases g6; rfl
        subst hzz
        obtain ⟨i', g5, g6⟩ := elTy_some hue hq
        rw [g1] at g5; cases g5
        have hb' := mul_lt (of_decide_eq_true h4)
        have hbytes : bytesT P e' = i.bytes := by simp [bytesT, g1]
        rw [hbytes] at hb'
        have hbb : (i.bytes : Int) * n ≤ 281474976710656 := by
          have e1 : n = (n.toNat : Int) := by omega
          rw [e1, ← Int.natCast_mul, Nat.mul_comm]
          omega
        have hm := run_make (P := P) w ty e' i z' hue g1 g2 .i64 .i64 n n h3 (Int.le_refl _) hbb (by omega)
        have hcells : madeCells z'.cells (n.toNat * i.size) = ⟨repL z'.cells.toList n.toNat⟩ := by
          have := range_repL z'.cells n.toNat
          have e1 : i.size = z'.cells.size := by rw [g6, g3]
          unfold madeCells
          rw [e1]
          exact this
        rw [hcells] at hm
        have h8 := h7 S z'.cells.toList (RPs_mapV _)
        rw [List.append_nil] at h8
        have hrel : ∀ m, RPs S (cellsL q (List.replicate m x)) (repL z'.cells.toList m) := by
          intro m
          induction m with
          | zero => simp [cellsL, repL, RPs]
          | succ m ih => exact h8.append ih
        have hg := Grew.alloc w (.cells ⟨repL z'.cells.toList n.toNat⟩ e')
        refine newRow_sound hi ht (q := q) (cs := repL z'.cells.toList n.toNat) (rest := []) (e := e') (fr := (0, 0)) (n := n.toNat) (cap := n.toNat) (w' := w.alloc (.cells ⟨repL z'.cells.toList n.toNat⟩ e')) (by simpa using hg) (fun j _ => by simp) (hrel _) (cellsL_one q (hrel _)) (fun _ h => by cases h) (by simp) ?_ (Nat.le_refl _) h5 (hrun _ _ hm)
        rw [repL_length, Array.length_toList, g3]; simp
      · cases h5
    · cases h
  · cases h
theorem appendZ_sound (hi : Inv S L H w) (ht : RIs S L t vs) {ty ty2 oty : TypeId} (hs : isSliceT P ty = true) (hk : isIntT P ty2 = true) {d : IV} {dv : Value} {n : Int} (hd : RI S L d dv)
    (h : appendZ P H ty d n K = some out) (hrun : ∀ v w', (Builtin.append_ #[ty, ty2] oty #[dv, .int .i64 n]).run P w = .ok v w' → run = .ok (.value v) w') : OpOK S L H w t vs run K out := by
  obtain ⟨k, hk⟩ := isIntT_some hk
  unfold appendZ at h
  split at h
  · rename_i e q he hq
    split at h
    · rename_i z hz
      split at h
      · rename_i h2
        have hh := chk_some h
        clear h
        obtain ⟨h3, h⟩ := hh
        have h3 := of_decide_eq_true h3
        have hh := chk_some h
        clear h
        obtain ⟨h4, h⟩ := hh
        obtain ⟨e', hue⟩ := isSliceT_some hs
        have : e' = e := by simpa [elemT, hue] using he
        subst this
        obtain ⟨x, r, h5, h6, h7⟩ := decT_sound q h
        split at h5
        · obtain ⟨i, z', g1, g2, g3, g4⟩ := zeroOK_some h2
          have hzz : z' = z := by
            obtain ⟨i', g5, g6⟩ := zeroT_some hz
            rw [g1] at g5; cases g5
            rw [g2] at g6; cases g6; rfl
          subst hzz
          obtain ⟨i', g5, g6⟩ := elTy_some hue hq
          rw [g1] at g5; cases g5
          have hb' := mul_lt (of_decide_eq_true h4)
          have hbytes : bytesT P e' = i.bytes := by simp [bytesT, g1]
          rw [hbytes] at hb'
          have hsp := sizeTy_pos q
          have hbb : n * (i.bytes : Int) ≤ 281474976710656 := by
            have e1 : n = (n.toNat : Int) := by omega
            rw [e1, ← Int.natCast_mul]
            omega
          have hcells : Builtin.zeroCells z'.cells n.toNat = ⟨repL z'.cells.toList n.toNat⟩ := range_repL z'.cells n.toNat
          have h8 := h7 S z'.cells.toList (RPs_mapV _)
          rw [List.append_nil] at h8
          have hrel : ∀ m, RPs S (cellsL q (List.replicate m x)) (repL z'.cells.toList m) := by
            intro m
            induction m with
            | zero => simp [cellsL, repL, RPs]
            | succ m ih => exact h8.append ih
          have hA := AppRun.ofZeros (w := w) (oty := oty) (z := z') (n := n) hue g1 hk g2 (by rw [g3, g6]) (by omega) g4 h3 (by omega) hbb
          rw [hcells] at hA
          exact appendL_sound hi ht hue hq hd h2 (hrel n.toNat) g1 (by rw [List.length_replicate]; exact hA) h5 hrun
        · cases h5
      · cases h
    · cases h
  · cases h
end
end Go.Proofs.YtfaofikhabccoaaGreatDoor.Jv
