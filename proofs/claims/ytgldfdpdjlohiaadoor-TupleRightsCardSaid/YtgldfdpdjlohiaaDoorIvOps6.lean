/- Each plain operation of the ideal machine does what the model's does; conditions: none. -/
import Derived.Test.YtgldfdpdjlohiaaDoorIvOps5
namespace Go.Proofs.YtgldfdpdjlohiaaDoor.Iv
open Go Go.RowKit
section
variable {P : Program} {S : Mem} {L : Locs} {H : Hp} {w : World} {t : List IV} {vs : List Value} {run : Result Next} {K : IV → Option Nat → Hp → R} {out : IV × Hp}

theorem optBound_some {a : Act} (ht : RIs S L t a.tmps.toList) {x : Option Operand} {d i : Int} (h : optBound t x d = some i) :
    (x.map a.eval = none ∧ i = d) ∨ ∃ k, x.map a.eval = some (.int k i) := by
  unfold optBound at h
  split at h
  · cases h; exact .inl ⟨rfl, rfl⟩
  · rename_i o
    split at h
    · rename_i k n he
      cases h
      have := ev_rel ht o
      rw [he] at this
      simp only [RI, RP] at this
      exact .inr ⟨k, by simp [this]⟩
    · cases h
theorem run_bounds {isSlice : Bool} {len cap : Nat} {lo hi : Option Value} {a b : Int} (hlo : (lo = none ∧ a = 0) ∨ ∃ k, lo = some (.int k a)) (hhi : (hi = none ∧ b = len) ∨ ∃ k, hi = some (.int k b))
    (h0 : 0 ≤ a) (h1 : a ≤ b) (h2 : b ≤ cap) : (Instr.sliceBounds isSlice len cap lo hi none).run P w = .ok (a.toNat, b.toNat, cap) w := by
  have e1 : ∀ (k : IntKind) (c : BoundsCode), (Instr.sliceBound (.int k b) cap c).run P w = .ok b.toNat w := fun k c => run_sliceBound (P := P) w k b cap c (by omega) h2
  have e2 : ∀ (k : IntKind) (c : BoundsCode), (Instr.sliceBound (.int k a) b.toNat c).run P w = .ok a.toNat w := fun k c => run_sliceBound (P := P) w k a b.toNat c h0 (by omega)
  rcases hhi with ⟨rfl, rfl⟩ | ⟨k, rfl⟩
  · have e3 : ((len : Int)).toNat = len := rfl
    rcases hlo with ⟨rfl, rfl⟩ | ⟨k', rfl⟩
    · simp [Instr.sliceBounds]
    · have := e2 k' .sliceB
      rw [e3] at this
      simp [Instr.sliceBounds, this]
  · rcases hlo with ⟨rfl, rfl⟩ | ⟨k', rfl⟩
    · simp [Instr.sliceBounds, e1]
    · simp [Instr.sliceBounds, e1, e2]
theorem Addr_add (b o n : Nat) : (⟨b, o, none⟩ : Addr).add n = ⟨b, o + n, none⟩ := Addr.add_mid b o n
theorem slice_sound {a : Act} (ht : RIs S L t a.tmps.toList) {ty : TypeId} {x : IV} {xv : Value} (hx : RI S L x xv) {lo hi : Option Operand} {Kv : IV → R} (hi' : Inv S L H w) (h : sliceK P H ty x lo hi t Kv = some out) :
    ∃ y v, Kv y = some out ∧ RI S L y v ∧ (Instr.sliceAt ty xv (lo.map a.eval) (hi.map a.eval) none).run P w = .ok v w := by
  unfold sliceK at h
  have rows : ∀ (n cap : Nat) (ad : Option Addr) (sz : Nat) (i j : Int) (e : TypeId), P.underlying ty = some (.slice e) → elemSz P ty = some sz → n ≤ cap → optBound t lo 0 = some i → optBound t hi n = some j → 0 ≤ i → i ≤ j → j ≤ n →
      (Instr.sliceAt ty (.slice ad n cap) (lo.map a.eval) (hi.map a.eval) none).run P w = .ok (.slice (if cap = i.toNat then ad else ad.map (·.add (i.toNat * sz))) (j.toNat - i.toNat) (cap - i.toNat)) w := by
    intro n cap ad sz i j e hu hsz hnc h1 h2 h3 h4 h5
    obtain ⟨inf, g1, rfl, g3⟩ := elemSz_slice hu hsz
    have := run_bounds (P := P) (w := w) (isSlice := true) (len := n) (cap := cap) (optBound_some ht h1) (optBound_some ht h2) h3 h4 (by omega)
    simp only [Instr.sliceAt, Sem.run_bind, run_underlying hu, Result.andThen_ok, Instr.slice, this, sizeOf, typeInfo, run_program, g1, Sem.run_pure]
  split at h
  · rename_i s
    simp only [RI, RP] at hx
    subst hx
    split at h
    · rename_i hstr
      have hu := isStrT_some hstr
      split at h
      · rename_i i j h1 h2
        obtain ⟨hc, h⟩ := chk_some h
        simp only [Bool.and_eq_true, decide_eq_true_eq] at hc
        have := run_bounds (P := P) (w := w) (isSlice := false) (len := s.size) (cap := s.size) (optBound_some ht h1) (optBound_some ht h2) hc.1.2 hc.2 hc.1.1.2
        refine ⟨_, _, h, rfl, ?_⟩
        simp [Instr.sliceAt, run_underlying hu, Instr.slice, this]
      · cases h
    · cases h
  · rename_i n l
    obtain ⟨ad, cap, rfl, h1, h2⟩ := hx
    split at h
    · rename_i sz i j g1 g2 g3 g4
      obtain ⟨e, hu⟩ := isSliceT_some g1
      obtain ⟨hc, h⟩ := chk_some h
      simp only [Bool.and_eq_true, decide_eq_true_eq] at hc
      refine ⟨_, _, h, ?_, rows n cap ad sz i j e hu g2 h1 g3 g4 hc.1.2 hc.2 hc.1.1.2⟩
      refine ⟨_, _, rfl, by omega, ?_⟩
      by_cases hz : j.toNat - i.toNat = 0
      · exact .inl ⟨hz, by simp [sub, hz]⟩
      · rcases h2 with ⟨rfl, rfl⟩ | ⟨b, o, rfl, h2⟩
        · omega
        · right
          rw [if_neg (by omega)]
          exact ⟨b, o + i.toNat * sz, by simp [Addr_add], RPm_take (RPm_drop h2 _) _⟩
    · cases h
  · rename_i c sz' n
    obtain ⟨lo', e1, e2, cap, rfl, e3, e4, e5, e6⟩ := hx
    split at h
    · rename_i sz i j g1 g2 g3 g4
      obtain ⟨e, hu⟩ := isSliceT_some g1
      split at h
      · rename_i hs
        subst hs
        obtain ⟨hc, h⟩ := chk_some h
        simp only [Bool.and_eq_true, decide_eq_true_eq] at hc
        refine ⟨_, _, h, ?_, rows n cap _ sz i j e hu g2 e5 g3 g4 hc.1.2 hc.2 hc.1.1.2⟩
        refine ⟨lo', e1, trivial, _, _, rfl, by omega, ?_, e6, ?_⟩
        · rw [← Nat.add_mul, ← e3]; exact Nat.mul_le_mul_right _ (by omega)
        · by_cases hz : j.toNat - i.toNat = 0
          · exact .inl hz
          · right; rw [if_neg (by omega)]; simp [Addr_add]
      · cases h
    · cases h
  · rename_i c sz' off n
    obtain ⟨lo', e1, e2, ad, cap, rfl, e3, e4, e5, e6⟩ := hx
    split at h
    · rename_i sz i j g1 g2 g3 g4
      obtain ⟨e, hu⟩ := isSliceT_some g1
      split at h
      · rename_i hs
        subst hs
        obtain ⟨hc, h⟩ := chk_some h
        simp only [Bool.and_eq_true, decide_eq_true_eq] at hc
        refine ⟨_, _, h, ?_, rows n cap _ sz i j e hu g2 e3 g3 g4 hc.1.2 hc.2 hc.1.1.2⟩
        refine ⟨lo', e1, e2, _, _, rfl, by omega, ?_, e5, ?_⟩
        · have : (i.toNat * sz) + (j.toNat - i.toNat) * sz ≤ n * sz := by rw [← Nat.add_mul]; exact Nat.mul_le_mul_right _ (by omega)
          omega
        · by_cases hz : j.toNat - i.toNat = 0
          · exact .inl hz
          · rcases e6 with rfl | rfl
            · omega
            · right; rw [if_neg (by omega)]; simp [Addr_add]
      · cases h
    · cases h
  · rename_i c off
    obtain ⟨lo', e1, e2, rfl⟩ := hx
    split at h
    · rename_i n sz g1 g2
      split at h
      · rename_i i j g3 g4
        obtain ⟨hc, h⟩ := chk_some h
        simp only [Bool.and_eq_true, decide_eq_true_eq] at hc
        obtain ⟨e, hu⟩ : ∃ e, P.underlying ty = some (.array n e) := by
          unfold arrLen at g1
          split at g1
          · rename_i n' e he; cases g1; exact ⟨e, he⟩
          · cases g1
        obtain ⟨inf, k1, k2, k3⟩ : ∃ inf, P.info? e = some inf ∧ inf.size = sz ∧ sz ≠ 0 := by
          simp only [elemSz, elemT, hu] at g2
          cases hs : sizeT P e with
          | none => simp [hs] at g2
          | some m =>
            obtain ⟨inf, q1, q2⟩ := sizeT_some hs
            cases m with
            | zero => simp [hs] at g2
            | succ m => simp only [hs, Option.some.injEq] at g2; exact ⟨inf, q1, by omega, by omega⟩
        have hb := run_bounds (P := P) (w := w) (isSlice := false) (len := n) (cap := n) (optBound_some ht g3) (optBound_some ht g4) hc.1.1.2 hc.1.2 hc.1.1.1.2
        have hrun : (Instr.sliceAt ty (.pointer (some ⟨lo'.blk, off, none⟩)) (lo.map a.eval) (hi.map a.eval) none).run P w = .ok (.slice (some (if n = i.toNat then ⟨lo'.blk, off, none⟩ else (⟨lo'.blk, off, none⟩ : Addr).add (i.toNat * sz))) (j.toNat - i.toNat) (n - i.toNat)) w := by
          subst k2
          simp only [Instr.sliceAt, Sem.run_bind, run_underlying hu, Result.andThen_ok, Instr.sureAddr, hb, sizeOf, typeInfo, run_program, k1, Sem.run_pure]
        have hlen : blkLen H c ≤ lo'.len := by
          unfold blkLen
          split
          · rename_i l hl
            rcases hi'.blk c _ hl with q | ⟨lo'', q1, q2⟩
            · cases q
            · rw [e1] at q1; cases q1
              obtain ⟨cs, q3, q4, _⟩ := q2
              simp at q4; omega
          · rename_i l hl
            rcases hi'.blk c _ hl with q | ⟨lo'', q1, q2⟩
            · cases q
            · rw [e1] at q1; cases q1
              obtain ⟨cs, q3, q4, _⟩ := q2
              omega
          · omega
        refine ⟨_, _, h, ?_, hrun⟩
        refine ⟨lo', e1, trivial, _, _, rfl, by omega, ?_, k3, ?_⟩
        · have : (i.toNat * sz) + (j.toNat - i.toNat) * sz ≤ n * sz := by rw [← Nat.add_mul]; exact Nat.mul_le_mul_right _ (by omega)
          omega
        · by_cases hz : j.toNat - i.toNat = 0
          · exact .inl hz
          · right; rw [if_neg (by omega)]; simp [Addr_add]
      · cases h
    · cases h
  · cases h

theorem indexAddr_sound {ty : TypeId} {x i : IV} {xv iv : Value} (hx : RI S L x xv) (hiv : RI S L i iv) {Kv : IV → R} (h : indexAddrK P ty x i Kv = some out) :
    ∃ y v, Kv y = some out ∧ RI S L y v ∧ (Instr.indexAt ty xv iv).run P w = .ok v w := by
  unfold indexAddrK at h
  split at h
  · rename_i k j sz hsz
    simp only [RI, RP] at hiv
    subst hiv
    have rows : ∀ (n cap : Nat) (ad : Addr) (e : TypeId), P.underlying ty = some (.slice e) → 0 ≤ j → j < n → (Instr.indexAt ty (.slice (some ad) n cap) (.int k j)).run P w = .ok (.pointer (some (ad.add (j.toNat * sz)))) w := by
      intro n cap ad e hu h0 h1
      obtain ⟨inf, g1, rfl, g3⟩ := elemSz_slice hu hsz
      simp [Instr.indexAt, asIntOf, run_underlying hu, sizeOf, typeInfo, g1, h0, h1]
    have arrs : ∀ (n : Nat) (ad : Addr) (e : TypeId), P.underlying ty = some (.array n e) → 0 ≤ j → j < n → (Instr.indexAt ty (.pointer (some ad)) (.int k j)).run P w = .ok (.pointer (some (ad.add (j.toNat * sz)))) w := by
      intro n ad e hu h0 h1
      have : ∃ inf, P.info? e = some inf ∧ inf.size = sz := by
        simp only [elemSz, elemT, hu] at hsz
        cases hs : sizeT P e with
        | none => simp [hs] at hsz
        | some m =>
          obtain ⟨inf, g1, g2⟩ := sizeT_some hs
          cases m with
          | zero => simp [hs] at hsz
          | succ m => simp [hs] at hsz; exact ⟨inf, g1, by omega⟩
      obtain ⟨inf, g1, rfl⟩ := this
      simp [Instr.indexAt, asIntOf, run_underlying hu, sizeOf, typeInfo, g1, h0, h1, Instr.sureAddr]
    split at h
    · rename_i n l
      split at h
      · rename_i hs
        obtain ⟨e, hu⟩ := isSliceT_some hs
        obtain ⟨hc, h⟩ := chk_some h
        simp only [Bool.and_eq_true, decide_eq_true_eq] at hc
        obtain ⟨ad, cap, rfl, h1, h2⟩ := hx
        rcases h2 with ⟨rfl, rfl⟩ | ⟨b, o, rfl, h2⟩
        · omega
        · refine ⟨_, _, h, ?_, rows n cap _ e hu hc.1 hc.2⟩
          rw [Addr_add]
          exact ⟨b, _, rfl, RPm_drop h2 _⟩
      · cases h
    · rename_i b sz' n
      split at h
      · rename_i hs
        obtain ⟨e, hu⟩ := isSliceT_some hs.1
        obtain ⟨hc, h⟩ := chk_some h
        simp only [Bool.and_eq_true, decide_eq_true_eq] at hc
        obtain ⟨lo', e1, e2, cap, rfl, e3, e4, e5, e6⟩ := hx
        refine ⟨_, _, h, ?_, rows n cap _ e hu hc.1 hc.2⟩
        rw [Addr_add, Nat.zero_add]
        exact ⟨lo', e1, trivial, rfl⟩
      · cases h
    · rename_i b sz' off n
      split at h
      · rename_i hs
        obtain ⟨e, hu⟩ := isSliceT_some hs.1
        obtain ⟨hc, h⟩ := chk_some h
        simp only [Bool.and_eq_true, decide_eq_true_eq] at hc
        obtain ⟨lo', e1, e2, ad, cap, rfl, e3, e4, e5, e6⟩ := hx
        rcases e6 with rfl | rfl
        · omega
        · refine ⟨_, _, h, ?_, rows n cap _ e hu hc.1 hc.2⟩
          rw [Addr_add]
          exact ⟨lo', e1, e2, rfl⟩
      · cases h
    · rename_i b off
      split at h
      · rename_i len e hu
        obtain ⟨hc, h⟩ := chk_some h
        simp only [Bool.and_eq_true, decide_eq_true_eq] at hc
        obtain ⟨lo', e1, e2, rfl⟩ := hx
        refine ⟨_, _, h, ?_, arrs len _ e hu hc.1 hc.2⟩
        rw [Addr_add]
        exact ⟨lo', e1, e2, rfl⟩
      · cases h
    · rename_i b off
      split at h
      · rename_i len e hu
        obtain ⟨hc, h⟩ := chk_some h
        simp only [Bool.and_eq_true, decide_eq_true_eq] at hc
        obtain ⟨lo', e1, e2, rfl⟩ := hx
        refine ⟨_, _, h, ?_, arrs len _ e hu hc.1 hc.2⟩
        rw [Addr_add]
        exact ⟨lo', e1, e2, rfl⟩
      · cases h
    · cases h
  · cases h

/-! ### Conversions -/
theorem bytesP_some {l : List PV} {r : List UInt8} (h : bytesP l = some r) {cs : List Value} (hc : RPs S l cs) : ∃ ns : List Int, cs = ns.map (Value.int .u8) ∧ r = ns.map fun n => UInt8.ofNat n.toNat := by
  induction l generalizing r cs with
  | nil => cases h; rw [RPs_nil] at hc; subst hc; exact ⟨[], rfl, rfl⟩
  | cons x l ih =>
    obtain ⟨c, q, rfl, h1, h2⟩ := hc
    simp only [bytesP] at h
    split at h
    · rename_i b hb
      split at h
      · rename_i r' hr
        cases h
        obtain ⟨ns, rfl, rfl⟩ := ih hr h2
        unfold byteOf? at hb
        split at hb
        · rename_i n
          cases hb
          simp only [RP] at h1
          subst h1
          exact ⟨n :: ns, rfl, rfl⟩
        · cases hb
      · cases h
    · cases h
theorem foldl_push (l : List UInt8) (s : ByteArray) : l.foldl (fun r b => r.push b) s = ⟨⟨s.data.toList ++ l⟩⟩ := by
  induction l generalizing s with
  | nil => simp
  | cons b l ih => rw [List.foldl_cons, ih]; congr 1; apply Array.ext'; simp [ByteArray.push]
theorem isU8_some {ty : TypeId} {e : TypeId} (hu : P.underlying ty = some (.slice e)) (h : isU8 P ty = true) : P.underlying e = some (.int .u8) := by
  unfold isU8 at h
  simp only [elemT, hu] at h
  split at h
  · assumption
  · cases h
theorem modify_push {α : Type} (a : Array α) (x : α) (f : α → α) : (a.push x).modify a.size f = a.push (f x) := by
  apply Array.ext
  · simp
  · intro i h1 h2
    simp only [Array.getElem_modify, Array.getElem_push]
    by_cases h : i < a.size
    · simp [h, Nat.ne_of_gt h]
    · have : i = a.size := by simp at h2; omega
      subst this
      simp
theorem convert_sound (hi : Inv S L H w) (ht : RIs S L t vs) {src dst : TypeId} {x : IV} {v : Value} (hx : RI S L x v) (h : convertK P H src dst x K = some out)
    (hrun : ∀ y w', (convert src dst v).run P w = .ok y w' → run = .ok (.value y) w') : OpOK S L H w t vs run K out := by
  unfold convertK at h
  split at h
  · rename_i k n
    simp only [RI, RP] at hx
    subst hx
    split at h
    · rename_i d k' h1 h2
      exact OpOK.val hi ht h rfl (hrun _ _ (by simp [convert, run_underlying h1, run_underlying h2, Conv.intToInt]))
    · rename_i d h1 h2
      refine OpOK.val hi ht h rfl (hrun _ _ ?_)
      simp [convert, run_underlying h1, run_underlying h2, Conv.intToString]
    · cases h
  · rename_i s
    simp only [RI, RP] at hx
    subst hx
    split at h
    · rename_i h1
      split at h
      · rename_i h2
        exact OpOK.val hi ht h rfl (hrun _ _ (by simp [convert, run_underlying h1, run_underlying (isStrT_some h2)]))
      · split at h
        · rename_i h2 h3
          obtain ⟨e, hu⟩ := isSliceT_some h3.1
          have hu8 := isU8_some hu h3.2
          have hge := grown_ge w s.size 0 e
          let cs : List Value := s.data.toList.map fun b => .int .u8 (b.toNat : Int)
          have hcs : cs.length = s.size := by simp [cs]
          let rest : List Value := List.replicate (grownCap w s.size 0 e - s.size) (.int .u8 0)
          have hrl : rest.length = grownCap w s.size 0 e - s.size := by simp [rest]
          let w' : World := { w.drew with heap := w.heap.push (.cells ⟨cs ++ rest⟩ e (grownCap w s.size 0 e, grownCap w s.size 0 e + 1)) }
          have hg : Grew w w' (.cells ⟨cs ++ rest⟩ e (grownCap w s.size 0 e, grownCap w s.size 0 e + 1)) := ⟨rfl, rfl, rfl, rfl⟩
          have hrun' : (convert src dst (.string s)).run P w = .ok (.slice (some ⟨w.heap.size, 0, none⟩) s.size (grownCap w s.size 0 e)) w' := by
            have hsz : (s.data.map fun b => Value.int .u8 (b.toNat : Int)) ++ Array.replicate (grownCap w s.size 0 e - s.size) (Value.int .u8 0) = ⟨cs ++ rest⟩ := by
              apply Array.ext'; simp [cs, rest]
            have hlen : (⟨cs ++ rest⟩ : Array Value).size = grownCap w s.size 0 e := by
              show (cs ++ rest).length = _
              rw [List.length_append, hcs, hrl]; omega
            simp only [convert, Sem.run_bind, run_underlying h1, run_underlying hu, run_underlying hu8, Result.andThen_ok, Conv.stringToBytes, run_choose, Question.forced, Bool.false_eq_true, if_false]
            change (Result.andThen ((newRow e ((s.data.map fun b => Value.int .u8 (b.toNat : Int)) ++ Array.replicate (grownCap w s.size 0 e - s.size) (Value.int .u8 0))).run P w.drew) _) = _
            rw [hsz]
            simp only [newRow, Sem.run_bind, run_newObj, Result.andThen_ok, Sem.run_pure, markStringish, run_shape, World.shape?]
            have hat : (w.drew.heap.push (Obj.cells ⟨cs ++ rest⟩ e))[w.drew.heap.size]? = some (Obj.cells ⟨cs ++ rest⟩ e) := Array.getElem?_push_size
            simp only [hat, run_freeze, Result.andThen_ok, World.freeze, hlen, Nat.one_ne_zero, if_false]
            have := modify_push w.heap (Obj.cells ⟨cs ++ rest⟩ e) (fun
              | .cells c elem (lo, hi) => .cells c elem (if lo == hi then (grownCap w s.size 0 e, grownCap w s.size 0 e + 1) else (min lo (grownCap w s.size 0 e), max hi (grownCap w s.size 0 e + 1)))
              | o => o)
            exact congrArg (fun h => Result.ok (Value.slice (some ⟨w.heap.size, 0, none⟩) s.size (grownCap w s.size 0 e)) ({ w.drew with heap := h } : World)) this
          have h' : K (.row H.length 1 s.size) none (H ++ [mkBlk ((encB s.data.toList).map .p)]) = some out := by
            have : mkBlk ((encB s.data.toList).map .p) = .pc (encB s.data.toList) := by
              unfold mkBlk
              have : ∀ l : List PV, allP (l.map .p) = some l := by
                intro l; induction l with
                | nil => rfl
                | cons x l ih => simp [allP, ih]
              rw [this]
            rw [this]; exact h
          exact newRow_sound hi ht hg (fun i hi => by rw [hcs, hrl] at hi; simp only; omega) (RIs_mapP.2 (encB_rel _)) (fun v hv => by
            simp only [cs, List.mem_map] at hv; obtain ⟨b, _, rfl⟩ := hv; rfl) (fun v hv => by rw [List.eq_of_mem_replicate hv]; rfl) (by rw [hcs, Nat.mul_one]) (by rw [hcs, hrl, Nat.mul_one]; omega) hge (by omega) h' (hrun _ _ hrun')
        · cases h
    · cases h
  · rename_i hn1 hn2
    split at h
    · rename_i hc
      obtain ⟨e, hu⟩ := isSliceT_some hc.1
      have hu8 := isU8_some hu hc.2.1
      have hst := isStrT_some hc.2.2
      split at h
      · rename_i n l hr
        split at h
        · rename_i hl
          split at h
          · rename_i r hb
            obtain ⟨a, cap, cs, rfl, h1, h2, h3, h4⟩ := rowCells_rel hi hx hr
            obtain ⟨ns, rfl, rfl⟩ := bytesP_some hb h2
            refine OpOK.val hi ht h rfl (hrun _ _ ?_)
            have hlen : ns.length = n := by have := h2.length; simp at this; omega
            simp only [convert, Sem.run_bind, run_underlying hu, run_underlying hst, run_underlying hu8, Result.andThen_ok]
            have fin : ∀ ns : List Int, ns.foldl (fun r n => r.push (UInt8.ofNat n.toNat)) ByteArray.empty = ⟨⟨ns.map fun n => UInt8.ofNat n.toNat⟩⟩ := by
              intro ns
              have := foldl_push (ns.map fun n => UInt8.ofNat n.toNat) ByteArray.empty
              rw [List.foldl_map] at this
              rw [this]
              simp
            rcases h4 with rfl | ⟨b, o, rfl, _, h5⟩
            · have : ns = [] := List.eq_nil_of_length_eq_zero (by have := h2.length; simpa using this)
              subst this
              simp at hlen
              subst hlen
              cases a with
              | none => simp [Conv.bytesToString]; rfl
              | some a =>
                have := run_bytesToString (P := P) w a 0 cap [] (by simp [loadCells, loadCellsFrom])
                exact this
            · have := run_bytesToString (P := P) w ⟨b, o, none⟩ n cap ns (by
                rw [← hlen]
                have := run_loadCells_list (P := P) w ⟨b, o, none⟩ (ns.map (Value.int .u8)) (fun j v hv => by rw [Addr_add]; exact h5 j v hv)
                simpa using this)
              rw [this, fin]
          · cases h
        · cases h
      · cases h
    · cases h
end
end Go.Proofs.YtgldfdpdjlohiaaDoor.Iv
