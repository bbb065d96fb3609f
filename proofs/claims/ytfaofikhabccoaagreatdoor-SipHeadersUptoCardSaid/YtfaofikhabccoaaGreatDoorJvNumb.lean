/- What is told of strconv.Atoi and strconv.ParseUint: each off its contract; conditions: none. -/
import Derived.Test.YtfaofikhabccoaaGreatDoorJvStr
import Derived.Test.YtfaofikhabccoaaGreatDoorJvPu
import Derived.Shelf.Strconv.AtoiAll
namespace Go.Proofs.YtfaofikhabccoaaGreatDoor.Jv
open Go Go.RowKit Go.Shelf
set_option linter.unusedVariables false
set_option linter.unusedSimpArgs false
/-- A variable that is an error. -/
def ErrOK (T : Tab) (g : Nat) : Prop := ∃ (t : TypeId) (u : Value) (o : Obj), T.blks g o ∧ ∀ w : World, w.heap[g]? = some o → w.cell? ⟨g, 0, none⟩ = some (.iface t u)
theorem ErrOK.cell {T : Tab} {g : Nat} (h : ErrOK T g) {S : Mem} {w : World} (hG : Good T S noL w) : ∃ t u, w.cell? ⟨g, 0, none⟩ = some (.iface t u) := by
  obtain ⟨t, u, o, h1, h2⟩ := h
  exact ⟨t, u, h2 w (hG.2 g _ h1).1⟩
theorem tabOf_err {W : World} {gs : List Nat} {g : Nat} {t : TypeId} {u : Value} (h : W.cell? ⟨g, 0, none⟩ = some (.iface t u)) (hm : g ∈ gs) : ErrOK (tabOf W gs) g := by
  have hlt := cell_lt h
  refine ⟨t, u, W.heap[g], ⟨hm, by simp [hlt]⟩, fun w hw => ?_⟩
  rw [← h]
  unfold World.cell?
  simp only
  rw [hw, Array.getElem?_eq_getElem hlt]
theorem RP_numErr {S : Mem} {k : IntKind} {n : Int} {b : Bool} {v : Value} (h : RE b v) : RP S (.tup [.v (.int k n), .err b]) (.tuple #[.int k n, v]) :=
  ⟨_, rfl, RPs_cons.2 ⟨rfl, RPs_cons.2 ⟨h, by simp [RPs]⟩⟩⟩
/-! ### strconv.Atoi -/
def atoiV (s : List UInt8) : Int × Bool := match Lib.atoiAll s with
  | .ok v => (v, true)
  | .«syntax» => (0, false)
  | .range => (Lib.atoiSat s, false)
def strconv_Atoi (s : List UInt8) : Option (Int × Bool) := bif decide (s.length < 4294967281) then some (atoiV s) else none
def atoiF : List PV → Option PV
  | [.v (.string s)] => match strconv_Atoi s.data.toList with
    | some y => some (.tup [.v (.int .i64 y.1), .err y.2])
    | none => none
  | _ => none
theorem atoiF_eq {s : List UInt8} {y : Int × Bool} (h : strconv_Atoi s = some y) : atoiF [.v (.string ⟨⟨s⟩⟩)] = some (.tup [.v (.int .i64 y.1), .err y.2]) := by
  simp only [atoiF, h]
theorem atoiF_ok {P : Program} {T : Tab} {f : FuncId} {gs gr : Nat} {te : TypeId} (hs : ErrOK T gs) (hr : ErrOK T gr)
    (h0 : ∀ (s : ByteArray) (v : Int) (w : World), s.size ≤ 9223372036854775806 → Lib.atoiAll s.data.toList = .ok v → Calls P f #[.string s] w fun e w' => e = .returned (.tuple #[.int .i64 v, .nilIface]) ∧ (w' = w ∨ ∃ t, w' = Lib.bytesWorld w te t))
    (h1 : ∀ (s : ByteArray) (ev : Value) (w : World), s.size ≤ 281474976710656 → Lib.atoiAll s.data.toList = .«syntax» → w.cell? ⟨gs, 0, none⟩ = some ev → (ev = .nilIface ∨ ∃ te pe, ev = .iface te pe) →
      Calls P f #[.string s] w fun e w' => ∃ t u, e = .returned (.tuple #[.int .i64 0, .iface t u]) ∧ Below w.heap.size w w')
    (h2 : ∀ (s : ByteArray) (ev : Value) (w : World), s.size ≤ 281474976710656 → Lib.atoiAll s.data.toList = .range → w.cell? ⟨gr, 0, none⟩ = some ev → (ev = .nilIface ∨ ∃ te pe, ev = .iface te pe) →
      Calls P f #[.string s] w fun e w' => ∃ t u, e = .returned (.tuple #[.int .i64 (Lib.atoiSat s.data.toList), .iface t u]) ∧ Below w.heap.size w w') : IntrOne P T f atoiF := by
  intro args r hr' S w vs hG hi hx
  unfold atoiF at hr'
  split at hr'
  · rename_i s
    split at hr'
    · rename_i y hy
      cases hr'
      unfold strconv_Atoi at hy
      cases hc : decide (s.data.toList.length < 4294967281) with
      | false => rw [hc] at hy; cases hy
      | true =>
        rw [hc] at hy
        cases hy
        have hsz : s.size < 4294967281 := by
          show s.data.size < _
          rw [← Array.length_toList]
          exact of_decide_eq_true hc
        obtain ⟨v1, r1, rfl, g1, g2⟩ := hx
        simp only [RPs] at g2
        subst g2
        simp only [RP] at g1
        subst g1
        unfold atoiV
        cases ha : Lib.atoiAll s.data.toList with
        | ok v =>
          refine (h0 s v w (by omega) ha).mono ?_
          rintro e w' ⟨rfl, hw⟩
          refine ⟨_, rfl, ?_, RP_numErr (.inl ⟨rfl, rfl⟩)⟩
          rcases hw with rfl | ⟨t, rfl⟩
          · exact Below.refl _ _
          · exact Lib.bytesWorld_below _ _ _
        | «syntax» =>
          obtain ⟨t, u, hv⟩ := hs.cell hG
          refine (h1 s _ w (by omega) ha hv (.inr ⟨t, u, rfl⟩)).mono ?_
          rintro e w' ⟨t', u', rfl, hb⟩
          exact ⟨_, rfl, hb, RP_numErr (.inr ⟨rfl, t', u', rfl⟩)⟩
        | range =>
          obtain ⟨t, u, hv⟩ := hr.cell hG
          refine (h2 s _ w (by omega) ha hv (.inr ⟨t, u, rfl⟩)).mono ?_
          rintro e w' ⟨t', u', rfl, hb⟩
          exact ⟨_, rfl, hb, RP_numErr (.inr ⟨rfl, t', u', rfl⟩)⟩
    · cases hr'
  · cases hr'
/-! ### strconv.ParseUint -/
def puHex (s : List UInt8) : Int × Bool := match s with
  | [] => (0, false)
  | c :: l => match Pu.pu16 0 (c :: l) with
    | some n => ((n : Int), true)
    | none => (65535, false)
def strconv_ParseUint (s : List UInt8) (a1 a2 : Int) : Option (Int × Bool) := bif decide (s.length < 4294967281) && (s.all Pu.isHex && (a1 == 16 && a2 == 16)) then some (puHex s) else none
def puF : List PV → Option PV
  | [.v (.string s), .v (.int .i64 a1), .v (.int .i64 a2)] => match strconv_ParseUint s.data.toList a1 a2 with
    | some y => some (.tup [.v (.int .u64 y.1), .err y.2])
    | none => none
  | _ => none
theorem puF_eq {s : List UInt8} {a1 a2 : Int} {y : Int × Bool} (h : strconv_ParseUint s a1 a2 = some y) : puF [.v (.string ⟨⟨s⟩⟩), .v (.int .i64 a1), .v (.int .i64 a2)] = some (.tup [.v (.int .u64 y.1), .err y.2]) := by
  simp only [puF, h]
theorem puF_ok {P : Program} {ρ : Ren} {T : Tab} (L : LaysPu.n14 P ρ) (hs : ErrOK T (ρ.g 0)) (hr : ErrOK T (ρ.g 1)) : IntrOne P T (ρ.f 14) puF := by
  intro args r hr' S w vs hG hi hx
  unfold puF at hr'
  split at hr'
  · rename_i s a1 a2
    split at hr'
    · rename_i y hy
      cases hr'
      unfold strconv_ParseUint at hy
      cases hc : (decide (s.data.toList.length < 4294967281) && (s.data.toList.all Pu.isHex && (a1 == 16 && a2 == 16))) with
      | false => rw [hc] at hy; cases hy
      | true =>
        rw [hc] at hy
        cases hy
        simp only [Bool.and_eq_true, decide_eq_true_eq, beq_iff_eq] at hc
        obtain ⟨hsz, hhex, rfl, rfl⟩ := hc
        have hsz : s.size < 4294967281 := by
          show s.data.size < _
          rw [← Array.length_toList]
          exact hsz
        obtain ⟨v1, r1, rfl, g1, v2, r2, rfl, g2, v3, r3, rfl, g3, g4⟩ := hx
        simp only [RPs] at g4
        subst g4
        simp only [RP] at g1 g2 g3
        subst g1 g2 g3
        obtain ⟨⟨l⟩⟩ := s
        simp only at hhex
        cases l with
        | nil =>
          obtain ⟨t, u, hv⟩ := hs.cell hG
          refine (Pu.public_empty L _ w hv (.inr ⟨t, u, rfl⟩)).mono ?_
          rintro e w' ⟨N, rfl, hb⟩
          exact ⟨_, rfl, hb, RP_numErr (.inr ⟨rfl, _, _, rfl⟩)⟩
        | cons c l =>
          have hne : (⟨⟨c :: l⟩⟩ : ByteArray).size ≠ 0 := by
            show (⟨c :: l⟩ : Array UInt8).size ≠ 0
            simp
          cases hp : Pu.pu16 0 (c :: l) with
          | some n =>
            have hv : puHex (c :: l) = ((n : Int), true) := by unfold puHex; simp only [hp]
            refine (Pu.public_ok L ⟨⟨c :: l⟩⟩ hne (by omega) hhex n hp w).mono ?_
            rintro e w' ⟨rfl, hb⟩
            refine ⟨_, rfl, hb, ?_⟩
            show RP S (.tup [.v (.int .u64 (puHex (c :: l)).1), .err (puHex (c :: l)).2]) _
            rw [hv]
            exact RP_numErr (.inl ⟨rfl, rfl⟩)
          | none =>
            have hv : puHex (c :: l) = (65535, false) := by unfold puHex; simp only [hp]
            obtain ⟨t, u, hcell⟩ := hr.cell hG
            refine (Pu.public_range L ⟨⟨c :: l⟩⟩ hne (by omega) hhex hp _ w hcell (.inr ⟨t, u, rfl⟩)).mono ?_
            rintro e w' ⟨N, rfl, hb⟩
            refine ⟨_, rfl, hb, ?_⟩
            show RP S (.tup [.v (.int .u64 (puHex (c :: l)).1), .err (puHex (c :: l)).2]) _
            rw [hv]
            exact RP_numErr (.inr ⟨rfl, _, _, rfl⟩)
    · cases hr'
  · cases hr'
end Go.Proofs.YtfaofikhabccoaaGreatDoor.Jv
