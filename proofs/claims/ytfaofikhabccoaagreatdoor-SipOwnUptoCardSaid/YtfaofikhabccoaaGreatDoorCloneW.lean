/- bytes.Clone: what it gives back is the caller's own; conditions: none. -/
import Derived.Test.YtfaofikhabccoaaGreatDoorJvSip
import Derived.Shelf.Bytes.SlClone
namespace Go.Proofs.YtfaofikhabccoaaGreatDoor.Jv
open Go Go.Shelf Go.RowKit Go.Lib Go.Proofs
set_option linter.unusedVariables false
set_option linter.unusedSimpArgs false
set_option linter.unusedSectionVars false
theorem wpList_app_run {P : Program} {w : World} {ops : Array Oper} {rest : List Oper} {o : Oper} {a : Act} {Q : Exit → Act → World → Prop} (hgd : o.guard = none) (s x : Operand) (t : TypeId)
    (ho : o.op = .call { callee := .builtin .append, args := #[s, x], argTypes := #[t, t] }) (sv xv v' : Value) (w' : World) (hs : a.eval s = sv) (hx : a.eval x = xv)
    (hr : (Builtin.append_ #[t, t] o.type #[sv, xv]).run P w = .ok v' w') (h : wpList P ops Q rest (a.put o.dst v') w') : wpList P ops Q (o :: rest) a w := by
  refine wpList_plain hgd fun _ hK => ?_
  unfold Oper.wp execOp
  simp only [ho, resolve, invoke, builtin, Sem.run_bind, Sem.run_pure, Result.andThen_ok, List.map_toArray, List.map_cons, List.map_nil, hs, hx, hr]
  exact hK _ _ h
set_option maxHeartbeats 2000000 in
set_option maxRecDepth 100000 in
theorem clone_own {P : Program} {ρ : Ren} (L : SlLaysK.n4 P ρ) (a : Addr) (n c : Nat) (xs : List Int) (w : World) (hx : xs.length = n) (hbig : n ≤ 4294967296) (hc : ∀ i, i < n → w.cell? (a.add i) = some (.int .u8 (xs.getD i 0))) :
    Calls P (ρ.f 4) #[.slice (some a) n c] w fun e w' => (n = 0 ∧ e = .returned (.slice (some ⟨w.heap.size, 0, none⟩) 0 0) ∧ w' = w.alloc (.cells #[] (ρ.t 5))) ∨
      (∃ cap rest, e = .returned (.slice (some ⟨w.heap.size + 1, 0, none⟩) n cap) ∧ Grew (w.alloc (.cells #[] (ρ.t 5))) w' (.cells ⟨xs.map (Value.int .u8) ++ rest⟩ (ρ.t 5) (0, 0)) ∧ (∀ v ∈ rest, v.oneCell' = true) ∧ cap = n + rest.length) := by
  have mixed := L.mixed
  have t4 := L.t4; have a4 := L.a4; have z4 := L.z4; have v4 := L.v4; have t22 := L.t22; have a22 := L.a22; have z22 := L.z22; have v22 := L.v22; have t5 := L.t5
  obtain ⟨i0, hi, hz0, hz1, hz2⟩ := info_parts L.i5
  have q22 : ∀ (w : World) (a : Option Addr) (n c n' c' : Nat), (binOp .eql (ρ.t 22) (.slice a n c) (.slice none n' c')).run P w = .ok (.bool a.isNone) w := fun w a n c n' c' => Lib.run_eql_slice_nil w _ _ a n c n' c' L.t22
  have u22 : ∀ w, Sem.run P (underlying (ρ.t 22)) w = .ok (TypeDesc.slice (ρ.t 5)) w := run_underlying t22
  have z5 : ∀ w, Sem.run P (Go.sizeOf (ρ.t 5)) w = .ok 1 w := fun w => by simp [Go.sizeOf, typeInfo, hi, hz1]
  have hl : (xs.map (Value.int .u8)).length = n * i0.size := by rw [hz1]; simpa using hx
  have src : Src P i0.size (ρ.t 22) (.slice (some a) n c) n (xs.map (Value.int .u8)) (w.alloc (.cells #[] (ρ.t 5))) := by
    refine Src.ofSlice _ t22 a n c _ hl (fun j u hj => ?_) (fun u hu => by obtain ⟨x, _, rfl⟩ := List.mem_map.1 hu; rfl)
    have hjn : j < n := by
      have := (List.getElem?_eq_some_iff.1 hj).1
      simp at this
      omega
    refine Lib.cell?_alloc_some _ ?_
    rw [hc j hjn]
    have e : (xs.map (Value.int .u8))[j]? = some (Value.int .u8 (xs.getD j 0)) := by simp [List.getD, List.getElem?_eq_getElem (show j < xs.length by omega)]
    rw [e] at hj
    exact hj
  by_cases hn : n = 0
  · have hnil : xs = [] := List.eq_nil_of_length_eq_zero (by omega)
    have hr := run_append_room_src (P := P) (w.alloc (.cells #[] (ρ.t 5))) (ρ.t 22) (ρ.t 22) (ρ.t 22) (ρ.t 5) i0 t22 hi w.heap.size 0 0 0 (.slice (some a) n c) n _ src (by omega) (fun j hj => by rw [hnil] at hj; simp at hj) (fun j hj => by rw [hnil] at hj; simp at hj)
    clear hc src
    subst hn hnil
    go_enter L.f4, SlBodyK.n4_ntmps ρ
    go_wp2_with (at_builtin; refine wpList_app_run rfl _ _ (ρ.t 22) rfl _ _ _ _ rfl rfl hr ?_)
    go_wp2
    go_ret
    exact .inl ⟨by simp, rfl, rfl⟩
  · have hold : (Builtin.firstCells i0.size 0 (.slice (some ⟨w.heap.size, 0, none⟩) 0 0)).run P (w.alloc (.cells #[] (ρ.t 5))).drew = .ok ([] : List Value).toArray (w.alloc (.cells #[] (ρ.t 5))).drew := by
      simp [Builtin.firstCells, loadCells, loadCellsFrom]
    have hr := run_append_grow_src (P := P) (w.alloc (.cells #[] (ρ.t 5))) (ρ.t 22) (ρ.t 22) (ρ.t 22) (ρ.t 5) i0 (.int .u8 0) t22 hi hz0 (some ⟨w.heap.size, 0, none⟩) 0 0 [] hold (.slice (some a) n c) n _ src (by omega) (by omega) (growslice_fits (by omega) (by rw [hz2]; omega))
    rw [Nat.zero_add] at hr
    have hge := grown_ge (w.alloc (.cells #[] (ρ.t 5))) n 0 (ρ.t 5)
    clear hc src
    go_enter L.f4, SlBodyK.n4_ntmps ρ
    go_wp2_with (at_builtin; refine wpList_app_run rfl _ _ (ρ.t 22) rfl _ _ _ _ rfl rfl hr ?_)
    go_wp2
    go_ret
    refine .inr ⟨_, (Builtin.zeroCells (Value.int .u8 0).cells (grownCap (w.alloc (.cells #[] (ρ.t 5))) n 0 (ρ.t 5) - n)).toList, rfl, ?_, ?_, ?_⟩
    · have : (⟨xs.map (Value.int .u8) ++ (Builtin.zeroCells (Value.int .u8 0).cells (grownCap (w.alloc (.cells #[] (ρ.t 5))) n 0 (ρ.t 5) - n)).toList⟩ : Array Value) = ([] ++ xs.map (Value.int .u8)).toArray ++ Builtin.zeroCells (Value.int .u8 0).cells (grownCap (w.alloc (.cells #[] (ρ.t 5))) n 0 (ρ.t 5) - n) := by
        apply Array.ext'; simp
      rw [this]
      exact Grew.drew _ _
    · exact zeroCells_one (fun v hv => by
        have : v = .int .u8 0 := by simpa [Value.cells] using hv
        rw [this]; rfl) (by decide) _
    · rw [zeroCells_size, show (Value.int .u8 0).cells.size = 1 from rfl]
      omega
theorem row_u8 (s : List UInt8) : cellsL .u8 s = (s.map fun b => Value.int .u8 (b.toNat : Int)).map .v := by
  induction s with
  | nil => rfl
  | cons z B ih => simp only [List.map_cons, cellsL, cellsT, ih]; rfl
theorem bclone_mine {P : Program} {T : Tab} {f : FuncId} {te : TypeId}
    (h0 : ∀ (n c : Nat) (w : World), Calls P f #[.slice none n c] w fun e w' => e = .returned (.slice none 0 0) ∧ w' = w)
    (h : ∀ (a : Addr) (n c : Nat) (xs : List Int) (w : World), xs.length = n → n ≤ 4294967296 → (∀ i, i < n → w.cell? (a.add i) = some (.int .u8 (xs.getD i 0))) →
      Calls P f #[.slice (some a) n c] w fun e w' => (n = 0 ∧ e = .returned (.slice (some ⟨w.heap.size, 0, none⟩) 0 0) ∧ w' = w.alloc (.cells #[] te)) ∨
      (∃ cap rest, e = .returned (.slice (some ⟨w.heap.size + 1, 0, none⟩) n cap) ∧ Grew (w.alloc (.cells #[] te)) w' (.cells ⟨xs.map (Value.int .u8) ++ rest⟩ te (0, 0)) ∧ (∀ v ∈ rest, v.oneCell' = true) ∧ cap = n + rest.length)) :
    ∀ args t l, bcloneF args = some (.sl t l) → ∀ S w vs, Good T S noL w → Inv S noL [] w → RPs S args vs → Calls P f vs.toArray w fun e w' => ∃ v L', e = .returned v ∧ RI S L' (.row 0 (sizeTy t)) v ∧ Ext 0 S noL w S L' [.tc t l] w' := by
  intro args t l hr S w vs hG hi hx
  unfold bcloneF at hr
  split at hr
  · rename_i s
    split at hr
    · rename_i y hy
      cases hr
      unfold bytes_Clone at hy
      cases hc : decide (s.length < 4294967281) with
      | false => rw [hc] at hy; cases hy
      | true =>
        rw [hc] at hy
        cases hy
        have hs := of_decide_eq_true hc
        obtain ⟨v1, r1, rfl, h1, h3⟩ := hx
        simp only [RPs] at h3
        subst h3
        have h1' := h1
        obtain ⟨a1, c1, rfl, _, hm⟩ := h1'
        obtain ⟨_, g1, g2⟩ := RSl_cells hi h1
        cases a1 with
        | none =>
          have hnil : s = [] := by
            rcases hm with e | ⟨b, o, e, _⟩
            · exact e
            · cases e
          subst hnil
          refine (h0 _ _ w).mono ?_
          rintro e w' ⟨rfl, rfl⟩
          exact ⟨_, _, rfl, ⟨loNil, if_pos rfl, rfl, none, 0, 0, rfl, by simp [loNil], by simp [loNil], Nat.le_refl _, by simp [sizeTy], .inr ⟨rfl, rfl⟩⟩, Ext.newNil (k := .tc .u8 []) hi fun L' => BRc.none S L' w' rfl rfl⟩
        | some a =>
          refine (h a s.length c1 (s.map fun b => (b.toNat : Int)) w (by simp) (by omega) fun i hlt => ?_).mono ?_
          · obtain ⟨b, o, e, hc⟩ := g2 (by omega)
            cases e
            rw [Addr_add]
            exact hc i hlt
          · rintro e w' (⟨hn0, rfl, rfl⟩ | ⟨cap, rest, rfl, hgr, hrest, hcap⟩)
            · have hnil : s = [] := List.eq_nil_of_length_eq_zero hn0
              subst hnil
              have hx2 := new_ext (box := false) (k := .tc .u8 []) (l := []) (cs := []) (rest := []) (e := te) (fr := (0, 0)) hi rfl (by simpa using Grew.alloc w (.cells #[] te)) (fun i _ => by simp) (by trivial) (fun _ h => by cases h) (fun _ h => by cases h)
              exact ⟨_, _, rfl, ⟨_, if_pos rfl, rfl, _, 0, 0, rfl, by simp, by simp, Nat.le_refl _, by simp [sizeTy], .inl rfl⟩, hx2⟩
            · have hb1 : Below w.heap.size w (w.alloc (.cells #[] te)) := ((Grew.alloc w (.cells #[] te)).kp _).below
              have hi1 : Inv S noL [] (w.alloc (.cells #[] te)) := hi.below hb1
              have hx1 : Ext 0 S noL w S noL [] (w.alloc (.cells #[] te)) := ⟨hi1, (Grew.alloc w (.cells #[] te)).kp _, fun _ _ _ h => h, fun _ _ _ h => .inl h, (fun i lo h => nomatch h), (fun _ _ hi0 => absurd hi0 (Nat.not_lt_zero _)), Nat.le_refl _⟩
              have hx2 := new_ext (box := false) (k := .tc .u8 s) (l := (cellsL .u8 s).map .p) (cs := s.map fun b => Value.int .u8 (b.toNat : Int)) (rest := rest) (e := te) (fr := (0, 0)) hi1 rfl (by simpa [List.map_map, Function.comp_def] using hgr) (fun i _ => by simp)
                (RIs_mapP.2 (by rw [row_u8]; exact RPs_mapV _)) (fun v hv => by obtain ⟨z, _, rfl⟩ := List.mem_map.1 hv; rfl) hrest
              have hsz : (w.alloc (.cells #[] te)).heap.size = w.heap.size + 1 := by
                rw [(Grew.alloc w (.cells #[] te)).heap]
                simp
              rw [hsz] at hx2
              refine ⟨_, _, rfl, ⟨_, if_pos rfl, rfl, _, s.length, cap, rfl, ?_, ?_, by omega, by simp [sizeTy], .inl rfl⟩, hx1.trans hx2 (Nat.le_refl _)⟩
              · simp [sizeTy]
              · simp [sizeTy, hcap]
    · cases hr
  · cases hr
end Go.Proofs.YtfaofikhabccoaaGreatDoor.Jv
