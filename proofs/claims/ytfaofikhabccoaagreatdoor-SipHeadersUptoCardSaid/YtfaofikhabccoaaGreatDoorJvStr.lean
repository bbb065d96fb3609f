/- Strings' parts: what is told of strings.Contains, strings.Cut and strings.Split: each off its contract; conditions: none. -/
import Derived.Test.YtfaofikhabccoaaGreatDoorJvLib
import Derived.Lib.IndexMore
import Derived.Lib.Split
import Derived.Lib.SplitLaws
namespace Go.Proofs.YtfaofikhabccoaaGreatDoor.Jv
open Go Go.RowKit
set_option linter.unusedVariables false
set_option linter.unusedSimpArgs false
/-- What is told of one function holds; it may answer what it made. -/
def IntrOne' (P : Program) (T : Tab) (f : FuncId) (g : List PV → Option PV) : Prop := ∀ args r, g args = some r → ∀ S w vs, Good T S noL w → Inv S noL [] w → RPs S args vs →
  Calls P f vs.toArray w fun e w' => ∃ v S', e = .returned v ∧ (∀ b o u, S b o u → S' b o u) ∧ (∀ b o u, S' b o u → S b o u ∨ w.heap.size ≤ b) ∧ Inv S' noL [] w' ∧ Below w.heap.size w w' ∧ RP S' r v
theorem IntrOne.up {P : Program} {T : Tab} {f : FuncId} {g : List PV → Option PV} (h : IntrOne P T f g) : IntrOne' P T f g := by
  intro args r hr S w vs hG hi hx
  refine (h args r hr S w vs hG hi hx).mono ?_
  rintro e w' ⟨v, rfl, h1, h2⟩
  exact ⟨v, S, rfl, fun _ _ _ h => h, fun _ _ _ h => .inl h, hi.below h1, h1, h2⟩
theorem intrOK_of' {E : Env} {T : Tab} (h : ∀ f g, E.intr f = some g → IntrOne' E.P T f g) (hm : ∀ f, E.mine f = false := by intro f; rfl) : IntrOK E T := ⟨h, mine_none hm⟩
theorem intrOK_mine {E : Env} {T : Tab} (h : ∀ f g, E.intr f = some g → IntrOne' E.P T f g) (hm : MineOK E T) : IntrOK E T := ⟨h, hm⟩
/-- A variable of one number stands, whatever the number. -/
def NumOK (T : Tab) (g : Nat) : Prop := ∃ (m : Int) (o : Obj), T.blks g o ∧ ∀ w : World, w.heap[g]? = some o → w.cell? ⟨g, 0, none⟩ = some (.int .i64 m)
theorem NumOK.cell {T : Tab} {g : Nat} (h : NumOK T g) {S : Mem} {w : World} (hG : Good T S noL w) : ∃ m : Int, w.cell? ⟨g, 0, none⟩ = some (.int .i64 m) := by
  obtain ⟨m, o, h1, h2⟩ := h
  exact ⟨m, h2 w (hG.2 g _ h1).1⟩
theorem tabOf_num {W : World} {gs : List Nat} {g : Nat} (h : ∃ m : Int, W.cell? ⟨g, 0, none⟩ = some (.int .i64 m)) (hm : g ∈ gs) : NumOK (tabOf W gs) g := by
  obtain ⟨m, h⟩ := h
  have hlt := cell_lt h
  refine ⟨m, W.heap[g], ⟨hm, by simp [hlt]⟩, fun w hw => ?_⟩
  rw [← h]
  unfold World.cell?
  simp only
  rw [hw, Array.getElem?_eq_getElem hlt]
theorem two_strings {S : Mem} {s sep : ByteArray} {vs : List Value} (h : RPs S [.v (.string s), .v (.string sep)] vs) : vs = [.string s, .string sep] := by
  obtain ⟨v1, r1, rfl, h1, v2, r2, rfl, h2, h3⟩ := h
  simp only [RPs] at h3
  simp only [RP] at h1 h2
  subst h1 h2 h3
  rfl
/-! ### strings.Contains -/
def strings_Contains (a0 a1 : List UInt8) : Option Bool := bif decide (a0.length < 4294967281) then some (Lib.contains a0 a1) else none
def containsF : List PV → Option PV
  | [.v (.string s), .v (.string sep)] => match strings_Contains s.data.toList sep.data.toList with
    | some y => some (.v (.bool y))
    | none => none
  | _ => none
theorem containsF_eq {s sep : List UInt8} {y : Bool} (h : strings_Contains s sep = some y) : containsF [.v (.string ⟨⟨s⟩⟩), .v (.string ⟨⟨sep⟩⟩)] = some (.v (.bool y)) := by
  simp only [containsF, h]
theorem containsF_ok {P : Program} {T : Tab} {f : FuncId} {g : Nat} (hg : NumOK T g)
    (h : ∀ (s sep : ByteArray) (m : Int) (w : World), s.size < 4294967281 → w.cell? ⟨g, 0, none⟩ = some (.int .i64 m) → Calls P f #[.string s, .string sep] w fun e w' => e = .returned (.bool (Lib.contains s.data.toList sep.data.toList)) ∧ w' = w) : IntrOne P T f containsF := by
  intro args r hr S w vs hG hi hx
  unfold containsF at hr
  split at hr
  · rename_i s sep
    split at hr
    · rename_i y hy
      cases hr
      unfold strings_Contains at hy
      cases hc : decide (s.data.toList.length < 4294967281) with
      | false => rw [hc] at hy; cases hy
      | true =>
        rw [hc] at hy
        cases hy
        have hs := of_decide_eq_true hc
        obtain ⟨m, hm⟩ := hg.cell hG
        rw [two_strings hx]
        refine (h s sep m w (by show s.data.size < _; rw [← Array.length_toList]; exact hs) hm).mono ?_
        rintro e w' ⟨rfl, rfl⟩
        exact ⟨_, rfl, Below.refl _ _, rfl⟩
    · cases hr
  · cases hr
/-! ### strings.Cut -/
def strings_Cut (a0 a1 : List UInt8) : Option (List UInt8 × List UInt8 × Bool) := bif decide (a0.length < 4294967281) then some (Lib.cut a0 a1) else none
def cutF : List PV → Option PV
  | [.v (.string s), .v (.string sep)] => match strings_Cut s.data.toList sep.data.toList with
    | some y => some (.v (.tuple #[.string ⟨⟨y.1⟩⟩, .string ⟨⟨y.2.1⟩⟩, .bool y.2.2]))
    | none => none
  | _ => none
theorem cutF_eq {s sep : List UInt8} {y : List UInt8 × List UInt8 × Bool} (h : strings_Cut s sep = some y) : cutF [.v (.string ⟨⟨s⟩⟩), .v (.string ⟨⟨sep⟩⟩)] = some (.v (.tuple #[.string ⟨⟨y.1⟩⟩, .string ⟨⟨y.2.1⟩⟩, .bool y.2.2])) := by
  simp only [cutF, h]
theorem cutF_ok {P : Program} {T : Tab} {f : FuncId} {g : Nat} (hg : NumOK T g)
    (h : ∀ (s sep : ByteArray) (m : Int) (w : World), s.size < 4294967281 → w.cell? ⟨g, 0, none⟩ = some (.int .i64 m) →
      Calls P f #[.string s, .string sep] w fun e w' => e = .returned (.tuple #[.string ⟨(Lib.cut s.data.toList sep.data.toList).1.toArray⟩, .string ⟨(Lib.cut s.data.toList sep.data.toList).2.1.toArray⟩, .bool (Lib.cut s.data.toList sep.data.toList).2.2]) ∧ ∃ n, w' = w.drewN n) : IntrOne P T f cutF := by
  intro args r hr S w vs hG hi hx
  unfold cutF at hr
  split at hr
  · rename_i s sep
    split at hr
    · rename_i y hy
      cases hr
      unfold strings_Cut at hy
      cases hc : decide (s.data.toList.length < 4294967281) with
      | false => rw [hc] at hy; cases hy
      | true =>
        rw [hc] at hy
        cases hy
        have hs := of_decide_eq_true hc
        obtain ⟨m, hm⟩ := hg.cell hG
        rw [two_strings hx]
        refine (h s sep m w (by show s.data.size < _; rw [← Array.length_toList]; exact hs) hm).mono ?_
        rintro e w' ⟨rfl, n, rfl⟩
        exact ⟨_, rfl, ⟨rfl, rfl, rfl, Nat.le_refl _, fun _ _ => rfl⟩, rfl⟩
    · cases hr
  · cases hr
/-! ### strings.Split -/
def strings_Split (a0 a1 : List UInt8) : Option (List (List UInt8)) := bif decide (a0.length < 4294967281) && !a1.isEmpty then some (Lib.splitK a1 0 (Lib.countB ⟨⟨a0⟩⟩ ⟨⟨a1⟩⟩) a0) else none
def splitF : List PV → Option PV
  | [.v (.string s), .v (.string sep)] => match strings_Split s.data.toList sep.data.toList with
    | some y => some (.sl .str y)
    | none => none
  | _ => none
/-- Split's parts are the caller's own. -/
theorem split_mine {P : Program} {T : Tab} {f : FuncId} {g : Nat} {ts : TypeId} (hg : NumOK T g)
    (h : ∀ (s sep : ByteArray) (m : Int) (w : World), s.size < 4294967281 → w.cell? ⟨g, 0, none⟩ = some (.int .i64 m) → 1 ≤ sep.size →
      Calls P f #[.string s, .string sep] w fun e w' => e = .returned (.slice (some ⟨w.heap.size, 0, none⟩) (Lib.countB s sep + 1) (Lib.countB s sep + 1)) ∧ w' = w.alloc (.cells ((Lib.splitB sep 0 (Lib.countB s sep) s).map Value.string).toArray ts)) :
    ∀ args t l, splitF args = some (.sl t l) → ∀ S w vs, Good T S noL w → Inv S noL [] w → RPs S args vs → Calls P f vs.toArray w fun e w' => ∃ v L', e = .returned v ∧ RI S L' (.row 0 (sizeTy t)) v ∧ Ext 0 S noL w S L' [.tc t l] w' := by
  intro args t l hr S w vs hG hi hx
  unfold splitF at hr
  split at hr
  · rename_i s sep
    split at hr
    · rename_i y hy
      cases hr
      unfold strings_Split at hy
      cases hc : (decide (s.data.toList.length < 4294967281) && !sep.data.toList.isEmpty) with
      | false => rw [hc] at hy; cases hy
      | true =>
        rw [hc] at hy
        cases hy
        simp only [Bool.and_eq_true, decide_eq_true_eq] at hc
        obtain ⟨hs, hne⟩ := hc
        obtain ⟨m, hm⟩ := hg.cell hG
        have h1 : 1 ≤ sep.size := by
          show 1 ≤ sep.data.size
          rw [← Array.length_toList]
          cases hl : sep.data.toList with
          | nil => rw [hl] at hne; cases hne
          | cons a b => simp
        rw [two_strings hx]
        refine (h s sep m w (by show s.data.size < _; rw [← Array.length_toList]; exact hs) hm h1).mono ?_
        rintro e w' ⟨rfl, rfl⟩
        have hlen := Lib.splitB_all sep h1 0 _ s rfl
        have hdata := Lib.splitB_data sep 0 (Lib.countB s sep) s
        generalize hL : Lib.splitB sep 0 (Lib.countB s sep) s = B at hlen hdata
        have hg2 := Grew.alloc w (.cells (B.map Value.string).toArray ts)
        have hrow : ∀ B : List ByteArray, cellsL .str (B.map fun z => z.data.toList) = (B.map Value.string).map .v := by
          intro B
          induction B with
          | nil => rfl
          | cons z B ih => simp only [List.map_cons, cellsL, cellsT, ih]; rfl
        have hx2 := new_ext (box := false) (k := .tc .str (B.map fun z => z.data.toList)) (l := (cellsL .str (B.map fun z => z.data.toList)).map .p) (cs := B.map Value.string) (rest := []) (e := ts) (fr := (0, 0)) hi rfl (by simpa using hg2) (fun i _ => by simp)
          (RIs_mapP.2 (by rw [hrow]; exact RPs_mapV _)) (fun v hv => by obtain ⟨z, _, rfl⟩ := List.mem_map.1 hv; rfl) (fun _ h => by cases h)
        have hd2 : (B.map fun z => z.data.toList) = _ := hdata
        rw [← hd2]
        have hBl : B.length = Lib.countB s sep + 1 := hlen
        refine ⟨_, _, rfl, ⟨_, if_pos rfl, rfl, _, Lib.countB s sep + 1, Lib.countB s sep + 1, rfl, ?_, ?_, Nat.le_refl _, by simp [sizeTy], .inl rfl⟩, hx2⟩
        · simp [sizeTy, hBl]
        · simp [sizeTy, hBl]
    · cases hr
  · cases hr
theorem splitF_eq {s sep : List UInt8} {y : List (List UInt8)} (h : strings_Split s sep = some y) : splitF [.v (.string ⟨⟨s⟩⟩), .v (.string ⟨⟨sep⟩⟩)] = some (.sl .str y) := by
  simp only [splitF, h]
theorem splitF_ok {P : Program} {T : Tab} {f : FuncId} {g : Nat} {ts : TypeId} (hg : NumOK T g)
    (h : ∀ (s sep : ByteArray) (m : Int) (w : World), s.size < 4294967281 → w.cell? ⟨g, 0, none⟩ = some (.int .i64 m) → 1 ≤ sep.size →
      Calls P f #[.string s, .string sep] w fun e w' => e = .returned (.slice (some ⟨w.heap.size, 0, none⟩) (Lib.countB s sep + 1) (Lib.countB s sep + 1)) ∧ w' = w.alloc (.cells ((Lib.splitB sep 0 (Lib.countB s sep) s).map Value.string).toArray ts)) : IntrOne' P T f splitF := by
  intro args r hr S w vs hG hi hx
  unfold splitF at hr
  split at hr
  · rename_i s sep
    split at hr
    · rename_i y hy
      cases hr
      unfold strings_Split at hy
      cases hc : (decide (s.data.toList.length < 4294967281) && !sep.data.toList.isEmpty) with
      | false => rw [hc] at hy; cases hy
      | true =>
        rw [hc] at hy
        cases hy
        simp only [Bool.and_eq_true, decide_eq_true_eq] at hc
        obtain ⟨hs, hne⟩ := hc
        obtain ⟨m, hm⟩ := hg.cell hG
        have h1 : 1 ≤ sep.size := by
          show 1 ≤ sep.data.size
          rw [← Array.length_toList]
          cases hl : sep.data.toList with
          | nil => rw [hl] at hne; cases hne
          | cons a b => simp
        rw [two_strings hx]
        refine (h s sep m w (by show s.data.size < _; rw [← Array.length_toList]; exact hs) hm h1).mono ?_
        rintro e w' ⟨rfl, rfl⟩
        have hlen := Lib.splitB_all sep h1 0 _ s rfl
        have hdata := Lib.splitB_data sep 0 (Lib.countB s sep) s
        generalize hL : Lib.splitB sep 0 (Lib.countB s sep) s = L at hlen hdata
        have hg2 := Grew.alloc w (.cells (L.map Value.string).toArray ts)
        have hcell : ∀ (j : Nat) (x : ByteArray), L[j]? = some x → (w.alloc (.cells (L.map Value.string).toArray ts)).cell? ⟨w.heap.size, j, none⟩ = some (.string x) := fun j x hj => by
          unfold World.cell?
          simp only
          rw [hg2.at]
          simp [hj]
        refine ⟨_, fun b o u => S b o u ∨ (b = w.heap.size ∧ ∃ x, L[o]? = some x ∧ u = .string x), rfl, fun b o u h => .inl h, fun b o u h => ?_, ⟨(fun b k h => by simp at h), (fun _ _ => rfl), (fun i j a b h => by cases h), (fun i a h => by cases h), fun b o u h => ?_⟩, ?_, ?_⟩
        · rcases h with h | ⟨rfl, _⟩
          · exact .inl h
          · exact .inr (Nat.le_refl _)
        · rcases h with h | ⟨rfl, x, hx2, rfl⟩
          · obtain ⟨q1, q2, q3, _⟩ := hi.sta b o u h
            refine ⟨?_, q2, by rw [hg2.size]; omega, fun i a h => by cases h⟩
            rw [← q1]
            unfold World.cell?
            simp only
            rw [hg2.old q3]
          · exact ⟨hcell o x hx2, rfl, by rw [hg2.size]; omega, fun i a h => by cases h⟩
        · exact ⟨hg2.os, hg2.tape, hg2.output, by rw [hg2.size]; omega, fun k hk => hg2.old hk⟩
        · refine ⟨_, _, ?_, Nat.le_refl _, .inr ⟨w.heap.size, 0, rfl, fun j x hj => ?_⟩⟩
          · have := congrArg List.length hdata
            rw [List.length_map, hlen] at this
            rw [← this]
          · rw [← hdata, List.getElem?_map] at hj
            cases hj2 : L[j]? with
            | none => rw [hj2] at hj; cases hj
            | some z =>
              rw [hj2] at hj
              cases hj
              exact .inr ⟨rfl, z, by simpa [sizeTy] using hj2, rfl⟩
    · cases hr
  · cases hr
/-- What is told of a function of several results. -/
theorem Ev.told' {E : Env} {f : FuncId} {s : Spec} {args : List PV} {g : List PV → Option PV} {fn : Func} {F : Option (Holes s)} (hf : okCall E.P f = some fn) (hg : E.intr f = some g) (h1 : isOne fn.resultTypes.toList = false)
    (h : ∀ x, F = some x → ∃ p l, g args = some p ∧ tupP p = some l ∧ l.length ≠ 1 ∧ retK s (l.map .p) [] = some x) : Ev F somes (fun k => (mach E k).call f s args) := by
  intro x hx
  obtain ⟨p, l, h2, h3, h4, h5⟩ := h x hx
  refine ⟨1, fun k hk => ?_⟩
  obtain ⟨k, rfl⟩ : ∃ j, k = j + 1 := ⟨k - 1, by omega⟩
  show bodyI E (mach E k) f s args = some x
  unfold bodyI
  rw [hf]
  simp only [hg, h2, resIn, h1, h3, Bool.and_false, Bool.false_or, decide_eq_true h4, if_true]
  exact h5
end Go.Proofs.YtfaofikhabccoaaGreatDoor.Jv
