/- Every operation that the ideal machine carries out is carried out by the model in the same way; conditions: none. -/
import Derived.Test.YtfaofikhabccoaaGreatDoorJvOps6
namespace Go.Proofs.YtfaofikhabccoaaGreatDoor.Jv
open Go Go.RowKit
set_option linter.unusedVariables false
set_option linter.unusedSimpArgs false
section
variable {ρ : Type} {P : Program} {S : Mem} {L : Locs} {H : Hp} {w : World} {t : List IV} {K : IV → Option Nat → Hp → Option ρ} {out : ρ}

theorem run_v {s : Sem Value} {x : Value} {w' : World} (h : s.run P w = .ok x w') : (do pure (Next.value (← s)) : Sem Next).run P w = .ok (.value x) w' := by simp [h]
theorem run_u {s : Sem Unit} {w' : World} (h : s.run P w = .ok () w') : (do s; pure Next.skip : Sem Next).run P w = .ok .skip w' := by simp [h]
theorem fieldOff_some {s : TypeId} {f d : Nat} (h : fieldOff P s f = some d) : ∃ fs fd i, P.underlying s = some (.struct fs) ∧ fs[f]? = some fd ∧ fd.offset = d ∧ P.info? fd.type = some i ∧ i.size ≠ 0 := by
  unfold fieldOff at h
  split at h
  · rename_i fs hu
    split at h
    · rename_i fd hfd
      split at h
      · cases h
      · rename_i n hne hn
        cases h
        obtain ⟨i, h1, rfl⟩ := sizeT_some hn
        exact ⟨fs, fd, i, hu, hfd, rfl, h1, hne⟩
      · cases h
    · cases h
  · cases h
theorem run_fieldAt {s : TypeId} {f d b o : Nat} (h : fieldOff P s f = some d) : (Instr.fieldAt s (.pointer (some ⟨b, o, none⟩)) f).run P w = .ok (.pointer (some ⟨b, o + d, none⟩)) w := by
  obtain ⟨fs, fd, i, h1, h2, rfl, h4, h5⟩ := fieldOff_some h
  simp [Instr.fieldAt, run_underlying h1, h2, Instr.sureAddr, fieldPlace, sizeOf, typeInfo, h4, h5, Addr_add]
theorem call_builtin {a : Act} {dst : Option Tmp} {args : Array Operand} {tys : Array TypeId} {type : TypeId} {pos : String} {after : Array Edge} {guard : Option (Nat × Bool)} {b : Builtin} :
    ∃ cst, execOp a.eval ⟨dst, .call ⟨.builtin b, args, tys⟩, type, pos, after, guard⟩ = builtin b tys type cst (args.map a.eval) := ⟨_, rfl⟩
theorem map_two {α β : Type} {x : Array α} {a b : α} (h : x.toList = [a, b]) (f : α → β) : x.map f = #[f a, f b] := by
  apply Array.ext'; simp [h]
theorem map_one {α β : Type} {x : Array α} {a : α} (h : x.toList = [a]) (f : α → β) : x.map f = #[f a] := by
  apply Array.ext'; simp [h]
theorem arr_two {α : Type} {x : Array α} {a b : α} (h : x.toList = [a, b]) : x = #[a, b] := by apply Array.ext'; simp [h]
theorem arr_one {α : Type} {x : Array α} {a : α} (h : x.toList = [a]) : x = #[a] := by apply Array.ext'; simp [h]

theorem run_equal_nils {t : TypeId} {ms : Array (String × TypeId)} (h : P.underlying t = some (.interface ms)) : (Op.equal t .nilIface .nilIface).run P w = .ok true w := by
  show (Op.equalIn (9999 + 1) t .nilIface .nilIface).run P w = _
  generalize 9999 = d
  simp [Op.equalIn, run_underlying h]
theorem run_equal_some {t tt : TypeId} {u : Value} {ms : Array (String × TypeId)} (h : P.underlying t = some (.interface ms)) : (Op.equal t (.iface tt u) .nilIface).run P w = .ok false w := by
  show (Op.equalIn (9999 + 1) t (.iface tt u) .nilIface).run P w = _
  generalize 9999 = d
  simp [Op.equalIn, run_underlying h]
theorem errs_eq {ty : TypeId} {ms : Array (String × TypeId)} (hu : P.underlying ty = some (.interface ms)) {bop : BinOp} {x : Operand} {cv v r : Value} {b : Bool} (hx : RE b v) (hr : (bop = .eql ∧ r = .bool b) ∨ (bop = .neq ∧ r = .bool !b)) :
    (do eqGuard bop ty x (.const cv) v .nilIface; binOp bop ty v .nilIface : Sem Value).run P w = .ok r w := by
  rcases hx with ⟨rfl, rfl⟩ | ⟨rfl, tt, uu, rfl⟩
  · rcases hr with ⟨rfl, rfl⟩ | ⟨rfl, rfl⟩
    · have hg : (eqGuard .eql ty x (.const cv) .nilIface .nilIface).run P w = .ok () w := by simp [eqGuard]
      simp only [Sem.run_bind, hg, Result.andThen_ok]
      show (do pure (.bool (← Op.equal ty .nilIface .nilIface)) : Sem Value).run P w = _
      simp [run_equal_nils hu]
    · have hg : (eqGuard .neq ty x (.const cv) .nilIface .nilIface).run P w = .ok () w := by simp [eqGuard]
      simp only [Sem.run_bind, hg, Result.andThen_ok]
      show (do pure (.bool (!(← Op.equal ty .nilIface .nilIface))) : Sem Value).run P w = _
      simp [run_equal_nils hu]
  · rcases hr with ⟨rfl, rfl⟩ | ⟨rfl, rfl⟩
    · have hg : (eqGuard .eql ty x (.const cv) (.iface tt uu) .nilIface).run P w = .ok () w := by simp [eqGuard]
      simp only [Sem.run_bind, hg, Result.andThen_ok]
      show (do pure (.bool (← Op.equal ty (.iface tt uu) .nilIface)) : Sem Value).run P w = _
      simp [run_equal_some hu]
    · have hg : (eqGuard .neq ty x (.const cv) (.iface tt uu) .nilIface).run P w = .ok () w := by simp [eqGuard]
      simp only [Sem.run_bind, hg, Result.andThen_ok]
      show (do pure (.bool (!(← Op.equal ty (.iface tt uu) .nilIface))) : Sem Value).run P w = _
      simp [run_equal_some hu]
theorem getO_some {α ρ : Type} {x : Option α} {K : α → Option ρ} {out : ρ} (h : getO x K = some out) : ∃ y, x = some y ∧ K y = some out := by
  cases x with
  | none => cases h
  | some y => exact ⟨y, rfl, h⟩
theorem opt_rop {q : Ty} {z : T q} {v : Value} (h : RI S L (.p (.opt q (some z))) v) : RI S L (.p (.rop (cellsT q z))) v := by
  obtain ⟨h1, _⟩ | ⟨y, b, o, h1, h2, h3⟩ := h
  · cases h1
  · cases h1
    exact ⟨b, o, h2, (RT_cells q z b o).1 h3⟩
theorem ptrNil_rel {x : IV} {v : Value} {b : Bool} (h : ptrNil x = some b) (hx : RI S L x v) : (b = true ∧ v = .pointer none) ∨ (b = false ∧ ∃ a, v = .pointer (some a)) := by
  unfold ptrNil at h
  split at h
  · rename_i q x
    cases h
    obtain ⟨rfl, rfl⟩ | ⟨y, b, o, rfl, rfl, _⟩ := hx
    · exact .inl ⟨rfl, rfl⟩
    · exact .inr ⟨rfl, _, rfl⟩
  · cases h
    obtain ⟨b, o, rfl, _⟩ := hx
    exact .inr ⟨rfl, _, rfl⟩
  · cases h
    obtain ⟨lo, _, _, rfl⟩ := hx
    exact .inr ⟨rfl, _, rfl⟩
  · cases h
    obtain ⟨lo, _, _, rfl⟩ := hx
    exact .inr ⟨rfl, _, rfl⟩
  · cases h
theorem ptr_eq {ty e : TypeId} (hu : P.underlying ty = some (.pointer e)) {bop : BinOp} {x y : Operand} {v r : Value} {b : Bool} (hx : (b = true ∧ v = .pointer none) ∨ (b = false ∧ ∃ a, v = .pointer (some a))) (hr : (bop = .eql ∧ r = .bool b) ∨ (bop = .neq ∧ r = .bool !b)) :
    (do eqGuard bop ty x y v (.pointer none); binOp bop ty v (.pointer none) : Sem Value).run P w = .ok r w := by
  have hg : (eqGuard bop ty x y v (.pointer none)).run P w = .ok () w := by
    rcases hx with ⟨rfl, rfl⟩ | ⟨rfl, a, rfl⟩ <;> simp [eqGuard]
  simp only [Sem.run_bind, hg, Result.andThen_ok]
  rcases hx with ⟨rfl, rfl⟩ | ⟨rfl, a, rfl⟩
  · rcases hr with ⟨rfl, rfl⟩ | ⟨rfl, rfl⟩
    · simp [binOp, run_equal_nilp hu]
    · simp [binOp, run_equal_nilp hu]
  · rcases hr with ⟨rfl, rfl⟩ | ⟨rfl, rfl⟩
    · simp [binOp, run_equal_somep hu a]
    · simp [binOp, run_equal_somep hu a]
theorem opK_sound {a : Act} {o : Oper} (hi : Inv S L H w) (ht : RIs S L t a.tmps.toList) (h : opK P t H o K = some out) : OpOK S L H w t a.tmps.toList ((execOp a.eval o).run P w) K out := by
  obtain ⟨dst, op, type, pos, after, guard⟩ := o
  have ev := fun x => ev_rel (S := S) (L := L) (t := t) (a := a) ht x
  cases op <;> simp only [opK] at h
  case move x => exact OpOK.val hi ht h (ev x) (by simp [execOp])
  case assign x => exact OpOK.val hi ht h (ev x) (by simp [execOp])
  case pick c x y =>
    have hc := ev c
    split at h
    · rename_i he; rw [he] at hc; simp only [RI, RP] at hc
      exact OpOK.val hi ht h (ev x) (by simp [execOp, hc, asBool])
    · rename_i he; rw [he] at hc; simp only [RI, RP] at hc
      exact OpOK.val hi ht h (ev y) (by simp [execOp, hc, asBool])
    · cases h
  case alloc e =>
    split at h
    · rename_i z hz
      obtain ⟨i, h1, h2⟩ := zeroT_some hz
      split at h
      · refine newArr_sound hi ht (cs := z.cells.toList) h (by rw [show z.cells.toList.map PV.v = z.cells.toList.map PV.v from rfl]; exact RPs_mapV _) (e := e) ?_
        simp only [execOp]
        exact run_v (by simp [Instr.alloc, zeroValue, typeInfo, h1, h2, newVar, newRow])
      · refine newK_sound hi ht (cs := z.cells.toList) (cells_self z) h (e := e) ?_
        simp only [execOp]
        exact run_v (by simp [Instr.alloc, zeroValue, typeInfo, h1, h2, newVar, newRow])
    · cases h
  case box e x =>
    have hx := ev x
    split at h
    · cases h
    · rename_i hne
      refine newK_sound hi ht (cs := (a.eval x).cells.toList) (cellsI_rel hne hx) h (e := e) ?_
      simp only [execOp]
      exact run_v (by simp [Instr.box, newVar, newRow])
  case build ty ps =>
    split at h
    · rename_i hu
      split at h
      · rename_i l hb
        obtain ⟨cs, h1, h2⟩ := build_sound (evParts_rel ht ps.toList) hu hb
        refine OpOK.val hi ht h (mkAgg_rel h2) ?_
        simp only [execOp]
        refine run_v (run_build w ty _ ⟨cs⟩ ?_)
        rw [← h1]
        congr 1
        simp
      · cases h
    · cases h
  case buildSlice ty n ps =>
    split at h
    · rename_i hu
      split at h
      · rename_i sz l hb
        have hs : isSliceT P ty = true := by
          unfold newRowK at h
          split at h
          · exact (chk_some h).1
          · cases h
        obtain ⟨cs, e, h1, h2, h3, h4⟩ := buildS_sound (evParts_rel ht ps.toList) hu hb hs
        refine newRowK_sound hi ht (e := e) h h1 h2 (fun q hq => ?_) ?_
        · have g1 := elTy_sz hq
          unfold buildS at hb
          split at hb
          · rename_i e' n' he' hn'
            rw [g1] at hn'
            cases hn'
            split at hb
            · split at hb
              · split at hb
                · split at hb
                  · cases hb; rfl
                  · cases hb
                · cases hb
              · cases hb
            · cases hb
          · cases hb
        · simp only [execOp]
          have := h4 w
          refine run_v ?_
          rw [← this]
          congr 2
          apply Array.ext'; simp
      · cases h
    · cases h
  case makeSlice ty n c =>
    have hn := ev n
    have hc := ev c
    split at h
    · rename_i k u k' v he1 he2
      rw [he1] at hn; rw [he2] at hc
      simp only [RI, RP] at hn hc
      split at h
      · rename_i hk
        obtain ⟨rfl, rfl⟩ := hk
        have hh := chk_some h
        clear h
        obtain ⟨hab, h⟩ := hh
        have hab' : u = v := by simpa using hab
        subst hab'
        refine make_sound hi ht h fun y w' hw => ?_
        simp only [execOp, hn, hc]
        exact run_v hw
      · cases h
    · cases h
  case load ty x =>
    have hx := ev x
    split at h
    · rename_i l he
      rw [he] at hx
      obtain ⟨y, u, h1, h2, h3⟩ := load_rop hi hx h
      exact OpOK.val hi ht h1 h2 (by simp only [execOp]; exact run_v h3)
    · rename_i q x' he
      rw [he] at hx
      obtain ⟨z, rfl, h'⟩ := getO_some h
      obtain ⟨y, u, h1, h2, h3⟩ := load_rop (l := cellsT q z) hi (opt_rop hx) h'
      exact OpOK.val hi ht h1 h2 (by simp only [execOp]; exact run_v h3)
    · rename_i b off he
      rw [he] at hx
      obtain ⟨lo, e1, e2, e3⟩ := hx
      obtain ⟨y, u, h1, h2, h3⟩ := load_blk hi e1 h
      exact OpOK.val hi ht h1 h2 (by simp only [execOp, e3]; exact run_v h3)
    · rename_i b sz j off he
      rw [he] at hx
      obtain ⟨lo, e1, e2, e3⟩ := hx
      obtain ⟨y, u, h1, h2, h3⟩ := load_el hi e1 h
      exact OpOK.val hi ht h1 h2 (by simp only [execOp, e3]; exact run_v h3)
    · cases h
  case store ty x y =>
    have hx := ev x
    have hy := ev y
    have fin : ∀ b off n, (∃ lo, L b = some lo ∧ a.eval x = .pointer (some ⟨lo.blk, off, none⟩)) → sizeT P ty = some n → storeK H n b off (evI t y) (fun H' => K (.p (.v Go.undef)) none H') = some out →
        OpOK S L H w t a.tmps.toList ((execOp a.eval ⟨dst, .store ty x y, type, pos, after, guard⟩).run P w) K out := by
      rintro b off n ⟨lo, e1, e3⟩ hn h
      obtain ⟨H', h1, w', h2, h3⟩ := store_sound hi e1 hy h hn
      exact ⟨_, _, _, h1, Go.undef, w', L, .inr ⟨by simp only [execOp, e3]; exact run_u h2, rfl⟩, h3, rfl, ht⟩
    split at h
    · rename_i b off n he hn
      rw [he] at hx
      obtain ⟨lo, e1, e2, e3⟩ := hx
      exact fin b off n ⟨lo, e1, e3⟩ hn h
    · rename_i b sz j off n he hn
      rw [he] at hx
      obtain ⟨lo, e1, e2, e3⟩ := hx
      obtain ⟨H', h1, w', h2, h3⟩ := storeE_sound hi e1 hy h hn
      exact ⟨_, _, _, h1, Go.undef, w', L, .inr ⟨by simp only [execOp, e3]; exact run_u h2, rfl⟩, h3, rfl, ht⟩
    · cases h
  case nilCheck x =>
    have hx := ev x
    split at h
    · rename_i b off he
      rw [he] at hx
      have hx' := hx
      obtain ⟨lo, e1, e2, e3⟩ := hx
      rw [e3] at hx'
      exact OpOK.val hi ht h hx' (by simp [execOp, e3])
    · rename_i b sz j off he
      rw [he] at hx
      have hx' := hx
      obtain ⟨lo, e1, e2, e3⟩ := hx
      rw [e3] at hx'
      exact OpOK.val hi ht h hx' (by simp [execOp, e3])
    · rename_i l he
      rw [he] at hx
      have hx' := hx
      obtain ⟨b, o, e3, _⟩ := hx
      rw [e3] at hx'
      exact OpOK.val hi ht h hx' (by simp [execOp, e3])
    · rename_i q x' he
      rw [he] at hx
      obtain ⟨z, rfl, h'⟩ := getO_some h
      have hx' := opt_rop hx
      have hx2 := hx'
      obtain ⟨b, o, e3, _⟩ := hx'
      rw [e3] at hx2
      exact OpOK.val hi ht h' hx2 (by simp [execOp, e3])
    · cases h
  case binOp bop ty x y yt =>
    have hx := ev x
    have hy := ev y
    split at h
    · rename_i u v he1 he2
      rw [he1] at hx
      rw [he2] at hy
      simp only [RI, RP] at hx hy
      obtain ⟨r, h1, h2⟩ := binK_sound (P := P) (w := w) (x := x) (y := y) h
      refine OpOK.val hi ht h1 rfl ?_
      simp only [execOp, hx, hy]
      exact run_v h2
    · rename_i b he1 he2
      rw [he1] at hx
      rw [he2] at hy
      have hy' : a.eval y = .nilIface := hy
      have key : ∀ r : Value, ((isIfT P ty && isConstO y) = true) → ((bop = .eql ∧ r = .bool b) ∨ (bop = .neq ∧ r = .bool !b)) → (do eqGuard bop ty x y (a.eval x) (a.eval y); binOp bop ty (a.eval x) (a.eval y) : Sem Value).run P w = .ok r w := by
        intro r hc hr
        simp only [Bool.and_eq_true] at hc
        obtain ⟨hif, hcon⟩ := hc
        obtain ⟨ms, hu⟩ : ∃ ms, P.underlying ty = some (.interface ms) := by
          unfold isIfT at hif
          split at hif
          · exact ⟨_, by assumption⟩
          · cases hif
        obtain ⟨cv, hcy⟩ : ∃ cv, y = .const cv := by cases y <;> simp only [isConstO] at hcon <;> first | exact ⟨_, rfl⟩ | cases hcon
        rw [hy', hcy]
        exact errs_eq (w := w) (x := x) (cv := cv) hu hx hr
      split at h
      · rename_i hc
        refine OpOK.val hi ht h rfl ?_
        simp only [execOp]
        exact run_v (key _ hc (.inl ⟨rfl, rfl⟩))
      · rename_i hc
        refine OpOK.val hi ht h rfl ?_
        simp only [execOp]
        exact run_v (key _ hc (.inr ⟨rfl, rfl⟩))
      · cases h
    · rename_i he2 _
      have hy' : a.eval y = .pointer none := by rw [he2] at hy; exact hy
      have key : ∀ b, ptrNil (evI t x) = some b → isPtrT P ty = true → ∀ r : Value, ((bop = .eql ∧ r = .bool b) ∨ (bop = .neq ∧ r = .bool !b)) → (do eqGuard bop ty x y (a.eval x) (a.eval y); binOp bop ty (a.eval x) (a.eval y) : Sem Value).run P w = .ok r w := by
        intro b hb hp r hr
        obtain ⟨e, hu⟩ : ∃ e, P.underlying ty = some (.pointer e) := by
          unfold isPtrT at hp
          split at hp
          · exact ⟨_, by assumption⟩
          · cases hp
        rw [hy']
        exact ptr_eq (w := w) (x := x) (y := y) hu (ptrNil_rel hb hx) hr
      split at h
      · rename_i b hb hp
        refine OpOK.val hi ht h rfl ?_
        simp only [execOp]
        exact run_v (key _ hb hp _ (.inl ⟨rfl, rfl⟩))
      · rename_i b hb hp
        refine OpOK.val hi ht h rfl ?_
        simp only [execOp]
        exact run_v (key _ hb hp _ (.inr ⟨rfl, rfl⟩))
      · cases h
    · cases h
  case unOp uop ty x =>
    have hx := ev x
    split at h
    · rename_i b he
      rw [he] at hx; simp only [RI, RP] at hx
      exact OpOK.val hi ht h rfl (by simp only [execOp, hx]; exact run_v (by simp [Op.unary]))
    · rename_i k n he
      rw [he] at hx; simp only [RI, RP] at hx
      exact OpOK.val hi ht h rfl (by simp only [execOp, hx]; exact run_v (by simp [Op.unary, Op.intArith]))
    · rename_i k n he
      rw [he] at hx; simp only [RI, RP] at hx
      refine OpOK.val hi ht h rfl ?_
      simp only [execOp, hx]
      exact run_v rfl
    · cases h
  case convert src d x =>
    refine convert_sound hi ht (ev x) h fun y w' hw => ?_
    simp only [execOp]
    exact run_v hw
  case makeFunc f first cap =>
    cases hb : (first.toList.isEmpty && stabL (evL t cap.toList)) with
    | false => rw [hb] at h; cases h
    | true =>
      rw [hb] at h
      simp only [Bool.and_eq_true, List.isEmpty_iff] at hb
      have h1 := evL_rel (S := S) (L := L) ht cap.toList
      refine OpOK.val hi ht h ⟨hb.2, _, rfl, h1⟩ ?_
      simp only [execOp]
      refine run_v ?_
      have e1 : first = #[] := by apply Array.ext'; simpa using hb.1
      subst e1
      simp only [Instr.makeFunc, Sem.run_pure]
      have e2 : (Array.map a.eval cap) = ⟨List.map a.eval cap.toList⟩ := by apply Array.ext'; simp
      rw [e2]
      simp
  case slice ty x lo hi' mx =>
    cases mx with
    | some m => simp at h
    | none =>
      simp only at h
      obtain ⟨y, v, h1, h2, h3⟩ := slice_sound ht (ev x) hi h
      exact OpOK.val hi ht h1 h2 (by simp only [execOp]; exact run_v h3)
  case fieldAddr s x f =>
    have hx := ev x
    split at h
    · rename_i b off d he hd
      rw [he] at hx
      obtain ⟨lo, e1, e2, e3⟩ := hx
      exact OpOK.val hi ht h ⟨lo, e1, e2, rfl⟩ (by simp only [execOp, e3]; exact run_v (run_fieldAt hd))
    · rename_i b sz j off d he hd
      rw [he] at hx
      obtain ⟨lo, e1, e2, e3⟩ := hx
      exact OpOK.val hi ht h ⟨lo, e1, e2, (by rw [← Nat.add_assoc] : Value.pointer (some ⟨lo.blk, j * sz + off + d, none⟩) = Value.pointer (some ⟨lo.blk, j * sz + (off + d), none⟩))⟩ (by simp only [execOp, e3]; exact run_v (run_fieldAt hd))
    · rename_i l d he hd
      rw [he] at hx
      obtain ⟨b, o, e3, h4⟩ := hx
      exact OpOK.val hi ht h ⟨b, _, rfl, RPm_drop h4 d⟩ (by simp only [execOp, e3]; exact run_v (run_fieldAt hd))
    · cases h
  case field s x f =>
    have hx := ev x
    split at h
    · rename_i y d fs hd hu
      split at h
      · rename_i fd hfd
        split at h
        · rename_i hagg
          obtain ⟨fs', fd', i, g1, g2, g3, g4, g5⟩ := fieldOff_some hd
          rw [hu] at g1; cases g1
          rw [hfd] at g2; cases g2
          obtain ⟨m, z, k1, k2, k3⟩ := loadG_sound h
          obtain ⟨cs, e1, e2⟩ := isAggI_cells hagg hx
          obtain ⟨v, k4, k5⟩ := k3 S L _ ((e2.drop d).take m)
          refine OpOK.val hi ht k2 k5 ?_
          simp only [execOp, e1]
          refine run_v ?_
          simp only [Instr.field, Sem.run_bind, run_underlying hu, Result.andThen_ok, hfd, asAgg, Sem.run_pure, g3]
          rcases k4 with ⟨q1, q2, rfl⟩ | ⟨q1, ⟨dd, q2⟩, q3⟩
          · obtain ⟨dd, w1, w2⟩ := isAggT_some q1
            have hagg2 : (isAgg fd.type).run P w = .ok true w := by
              unfold isAgg
              rw [Sem.run_bind, run_underlying w1 w]
              cases dd <;> simp_all
            obtain ⟨ii, w3, w4⟩ := sizeT_some q2
            have hm : ((cs.drop d).take m).length = ii.size := w4.symm
            have hm' : ((cs.drop d).take m) = (cs.drop d).take ii.size := by
              rw [← hm]
              simp only [List.length_take]
              rcases Nat.le_total m (cs.drop d).length with hh | hh
              · rw [Nat.min_eq_left hh]
              · rw [Nat.min_eq_right hh, List.take_of_length_le hh, List.take_of_length_le (Nat.le_refl _)]
            simp [part, hagg2, sizeOf, typeInfo, w3, hm']
          · have hagg2 : (isAgg fd.type).run P w = .ok false w := by
              unfold isAggT at q1
              rw [q2] at q1
              unfold isAgg
              rw [Sem.run_bind, run_underlying q2 w]
              cases dd <;> simp_all
            have hv : cs[d]? = some v := by
              have := congrArg (fun l => l[0]?) q3
              simp only [List.getElem?_take, List.getElem?_drop, Nat.add_zero, List.getElem?_cons_zero] at this
              split at this
              · exact this
              · cases this
            simp [part, hagg2, hv]
        · cases h
      · cases h
    · cases h
  case indexAddr ty x i =>
    obtain ⟨y, v, h1, h2, h3⟩ := indexAddr_sound (w := w) hi (ev x) (ev i) h
    exact OpOK.val hi ht h1 h2 (by simp only [execOp]; exact run_v h3)
  case index ty x i =>
    have hx := ev x
    have hj := ev i
    split at h
    · rename_i s k j he1 he2
      rw [he1] at hx
      rw [he2] at hj
      simp only [RI, RP] at hx hj
      split at h
      · rename_i hs
        rw [slen_size] at h
        have hh := chk2 h
        clear h
        obtain ⟨hc, h⟩ := hh
        refine OpOK.val hi ht h rfl ?_
        simp only [execOp, hx, hj]
        refine run_v ?_
        have hlt : j.toNat < s.size := by omega
        have hg : s[j.toNat]? = some s[j.toNat] := ByteArray.getElem?_lt' s _ hlt
        have hb : bL s.data.toList j = (s[j.toNat].toNat : Int) := by
          unfold bL
          have : s.data.toList.getD j.toNat 0 = s[j.toNat] := by
            rw [List.getD_eq_getElem?_getD, Array.getElem?_toList]
            have : s.data[j.toNat]? = some s[j.toNat] := Array.getElem?_eq_getElem hlt
            rw [this]; rfl
          rw [this]
        simp [Instr.index, asIntOf, run_underlying (isStrT_some hs), hc.1, hg, hb]
      · cases h
    · cases h
  case range ty x =>
    have hx := ev x
    split at h
    · rename_i s he
      rw [he] at hx
      simp only [RI, RP] at hx
      split at h
      · rename_i hs
        have hg := Grew.alloc w (.stringIter s 0)
        refine ⟨_, _, _, h, _, _, _, .inl ?_, Ext.newBlk hi hg (lo := ⟨w.heap.size, 1, 0, true⟩) rfl fun L' _ => ⟨rfl, Nat.one_ne_zero, hg.at⟩, ⟨_, if_pos rfl, rfl, rfl⟩, ht.mono (fun _ _ _ h => h) (hold hi)⟩
        simp only [execOp, hx]
        exact run_v (by simp [Instr.range, run_underlying (isStrT_some hs)])
      · cases h
    · cases h
  case next it isS =>
    cases isS with
    | false => simp at h
    | true =>
    have hx := ev it
    simp only at h
    split at h
    · rename_i b he
      rw [he] at hx
      obtain ⟨lo, e1, e2, e3⟩ := hx
      split at h
      · rename_i s p hb
        rcases hi.blk b _ hb with e | ⟨lo', e4, e5, e9, e6⟩
        · cases e
        rw [e1] at e4; cases e4
        have hget : (getObj lo.blk).run P w = .ok (.stringIter s p) w := by simp [getObj, Sem.run, e6]
        rw [slen_size] at h
        by_cases hp : p < s.size
        · rw [decide_eq_true hp] at h
          simp only [cond_true] at h
          have hset : (setObj lo.blk (.stringIter s (p + (Utf8.decode s p).2))).run P w = .ok () { w with heap := w.heap.setIfInBounds lo.blk (.stringIter s (p + (Utf8.decode s p).2)) } := by simp [setObj, Sem.run, e6]
          have hin := hi.inh _ _ e1 e9
          refine ⟨_, _, _, h, _, _, L, .inl ?_, Ext.put hi e1 e9 (w' := { w with heap := w.heap.setIfInBounds lo.blk (.stringIter s (p + (Utf8.decode s p).2)) }) rfl rfl rfl (by simp) (fun q hq => by simp [Array.getElem?_setIfInBounds, Ne.symm hq]) (List.getElem?_eq_some_iff.1 hb).1 ⟨e2, e9, by simp [hin]⟩, rfl, ht⟩
          simp only [execOp, e3]
          refine run_v ?_
          simp [Instr.next, hget, hp, hset, goInt]
        · rw [decide_eq_false hp] at h
          simp only [cond_false] at h
          refine OpOK.val hi ht h rfl ?_
          simp only [execOp, e3]
          refine run_v ?_
          simp [Instr.next, hget, hp]
      · cases h
    · cases h
  case extract x i =>
    have hx := ev x
    split at h
    · rename_i y he
      rw [he] at hx
      split at h
      · rename_i us
        simp only [RI, RP] at hx
        split at h
        · rename_i z hz
          refine OpOK.val hi ht h rfl ?_
          simp only [execOp, hx]
          refine run_v ?_
          have : us[i]? = some z := by rw [← Array.getElem?_toList]; exact hz
          simp [Instr.extract, this]
        · cases h
      · rename_i l
        obtain ⟨cs, e1, e2⟩ := hx
        split at h
        · rename_i z hz
          obtain ⟨v, e3, e4⟩ := e2.get hz
          refine OpOK.val hi ht h e4 ?_
          simp only [execOp, e1]
          refine run_v ?_
          simp [Instr.extract, e3]
        · cases h
      · cases h
    · rename_i l he
      rw [he] at hx
      obtain ⟨cs, e1, e2⟩ := hx
      split at h
      · rename_i z hz
        obtain ⟨v, e3, e4⟩ := e2.get hz
        refine OpOK.val hi ht h e4 ?_
        simp only [execOp, e1]
        refine run_v ?_
        simp [Instr.extract, e3]
      · cases h
    · cases h
  case call c =>
    obtain ⟨callee, args, argTypes⟩ := c
    cases callee with
    | value f => simp at h
    | invoke r m => simp at h
    | builtin b =>
      cases b <;> simp only at h <;> try (cases h; done)
      case len =>
        obtain ⟨cst, hcst⟩ := @call_builtin a dst args argTypes type pos after guard _
        rw [hcst]
        split at h
        · rename_i x ty hargs htys
          have hx := ev x
          rw [map_one hargs, arr_one htys]
          split at h
          · rename_i hty
            split at h
            · rename_i s he
              rw [he] at hx
              simp only [RI, RP] at hx
              rw [hx]
              rw [slen_size] at h
              exact OpOK.val hi ht h rfl (run_v (by simp [Builtin.len_, run_underlying (isStrT_some hty), goInt]))
            · cases h
          · split at h
            · rename_i hty
              obtain ⟨e, hu⟩ := isSliceT_some hty
              split at h
              · rename_i n hn
                have hv : ∃ ad m cap, a.eval x = .slice ad m cap ∧ n = (m : Int) := by
                  unfold lenI at hn
                  split at hn <;> try (cases hn; done)
                  · rename_i q l he; cases hn; rw [he] at hx; obtain ⟨ad, cap, e1, _⟩ := hx; exact ⟨_, _, _, e1, rfl⟩
                  · rename_i ad m cap he; cases hn; rw [he] at hx; exact ⟨_, _, _, hx, rfl⟩
                  · rename_i b sz he
                    rw [he] at hx
                    split at hn
                    · rename_i m hm
                      cases hn
                      obtain ⟨ad, cap, e1, _⟩ := blkLen_some hi hm hx
                      exact ⟨_, _, _, e1, rfl⟩
                    · cases hn
                  · rename_i b sz o m he; cases hn; rw [he] at hx; obtain ⟨lo, _, _, ad, cap, e1, _⟩ := hx; exact ⟨_, _, _, e1, rfl⟩
                obtain ⟨ad, m, cap, e1, rfl⟩ := hv
                rw [e1]
                exact OpOK.val hi ht h rfl (run_v (by simp [Builtin.len_, run_underlying hu, goInt]))
              · cases h
            · cases h
        · cases h
      case append =>
        obtain ⟨cst, hcst⟩ := @call_builtin a dst args argTypes type pos after guard _
        rw [hcst]
        split at h
        · rename_i d x ty ty2 hargs htys
          rw [map_two hargs, arr_two htys]
          split at h
          · rename_i hty
            split at h
            · rename_i s he
              split at h
              · rename_i hty2
                have hx := ev x
                rw [he] at hx
                exact append_sound (oty := type) hi ht hty (ev d) hx (fun _ => isStrT_some hty2) (fun hn => absurd ⟨s, rfl⟩ hn) h fun v w' hw => run_v hw
              · cases h
            · rename_i n he
              split at h
              · rename_i hty2
                have hx := ev x
                rw [he] at hx
                simp only [RI, RP] at hx
                rw [hx]
                exact appendZ_sound (oty := type) hi ht hty hty2 (ev d) h fun v w' hw => run_v hw
              · cases h
            · rename_i hns _
              split at h
              · rename_i hty2
                exact append_sound (oty := type) hi ht hty (ev d) (ev x) (fun ⟨s, hs⟩ => absurd hs (hns s)) (fun _ => isSliceT_some hty2) h fun v w' hw => run_v hw
              · cases h
          · cases h
        · cases h
      case min =>
        obtain ⟨cst, hcst⟩ := @call_builtin a dst args argTypes type pos after guard _
        rw [hcst]
        split at h
        · rename_i x y hargs
          have hx := ev x
          have hy := ev y
          split at h
          · rename_i k u k' v he1 he2
            rw [he1] at hx; rw [he2] at hy
            simp only [RI, RP] at hx hy
            rw [map_two hargs, hx, hy]
            exact OpOK.val hi ht h rfl (run_v (by simp [Builtin.min_, Builtin.min2]))
          · cases h
        · cases h
      case max =>
        obtain ⟨cst, hcst⟩ := @call_builtin a dst args argTypes type pos after guard _
        rw [hcst]
        split at h
        · rename_i x y hargs
          have hx := ev x
          have hy := ev y
          split at h
          · rename_i k u k' v he1 he2
            rw [he1] at hx; rw [he2] at hy
            simp only [RI, RP] at hx hy
            rw [map_two hargs, hx, hy]
            exact OpOK.val hi ht h rfl (run_v (by simp [Builtin.max_, Builtin.max2]))
          · cases h
        · cases h
  all_goals (cases h)
end
end Go.Proofs.YtfaofikhabccoaaGreatDoor.Jv
