/- Functions of the library that are told, not read: each off its contract; conditions: none. -/
import Derived.Test.YtfaofikhabccoaaGreatDoorJvEv
import Derived.Lib.Join
import Derived.Lib.ItoaNum
import Derived.Lib.AppendIntMem
namespace Go.Proofs.YtfaofikhabccoaaGreatDoor.Jv
open Go Go.RowKit
set_option linter.unusedVariables false
set_option linter.unusedSimpArgs false
/-- What is told of one function holds. -/
def IntrOne (P : Program) (T : Tab) (f : FuncId) (g : List PV → Option PV) : Prop := ∀ args r, g args = some r → ∀ S w vs, Good T S noL w → Inv S noL [] w → RPs S args vs →
  Calls P f vs.toArray w fun e w' => ∃ v, e = .returned v ∧ Below w.heap.size w w' ∧ RP S r v
theorem Inv.below {S : Mem} {w w' : World} (hi : Inv S noL [] w) (h : Below w.heap.size w w') : Inv S noL [] w' :=
  ⟨(fun b k h => by simp at h), (fun _ _ => rfl), (fun i j a b h => by cases h), (fun i a h => by cases h), fun b o u hu => by
    obtain ⟨q1, q2, q3, _⟩ := hi.sta b o u hu
    exact ⟨by rw [h.cell (p := ⟨b, o, none⟩) q3]; exact q1, q2, Nat.lt_of_lt_of_le q3 h.size, fun i a h => by cases h⟩⟩
theorem mine_none {E : Env} {T : Tab} (hm : ∀ f, E.mine f = false) : MineOK E T := fun f g _ h => by rw [hm f] at h; cases h
theorem intrOK_of {E : Env} {T : Tab} (h : ∀ f g, E.intr f = some g → IntrOne E.P T f g) (hm : ∀ f, E.mine f = false := by intro f; rfl) : IntrOK E T := by
  refine ⟨?_, mine_none hm⟩
  intro f g hg args r hr S w vs hG hi hx
  refine (h f g hg args r hr S w vs hG hi hx).mono ?_
  rintro e w' ⟨v, rfl, h1, h2⟩
  exact ⟨v, S, rfl, fun _ _ _ h => h, fun _ _ _ h => .inl h, hi.below h1, h1, h2⟩
/-! ### strings.Join -/
def joinB (sep : List UInt8) : List (List UInt8) → List UInt8
  | [] => []
  | [x] => x
  | x :: y :: r => x ++ (sep ++ joinB sep (y :: r))
theorem joinB_eq (sep : List UInt8) : ∀ xs, joinB sep xs = Lib.join xs sep
  | [] => rfl
  | [x] => (Lib.join_one x sep).symm
  | x :: y :: r => by
    rw [joinB, joinB_eq sep (y :: r), Lib.join_cons, Lib.join_cons]
    simp [Lib.joinTail]
def strings_Join (a0 : List (List UInt8)) (a1 : List UInt8) : Option (List UInt8) := bif decide (a0.length ≤ 140737488355328) && decide ((joinB a1 a0).length ≤ 140737488355328) then some (joinB a1 a0) else none
def joinF : List PV → Option PV
  | [.sl .str l, .v (.string sep)] => match strings_Join l sep.data.toList with
    | some y => some (.v (.string ⟨⟨y⟩⟩))
    | none => none
  | _ => none
theorem joinF_eq {l : List (List UInt8)} {sep y : List UInt8} (h : strings_Join l sep = some y) : joinF [.sl .str l, .v (.string ⟨⟨sep⟩⟩)] = some (.v (.string ⟨⟨y⟩⟩)) := by
  simp only [joinF, h]
theorem joinF_ok {P : Program} {T : Tab} {f : FuncId}
    (h0 : ∀ (a : Option Addr) (c : Nat) (sep : ByteArray) (w : World), Calls P f #[.slice a 0 c, .string sep] w fun e w' => e = .returned (.string ⟨#[]⟩) ∧ w' = w)
    (h1 : ∀ (bk o c : Nat) (xs : List ByteArray) (sep : ByteArray) (w : World), (∀ (j : Nat) x, xs[j]? = some x → w.cell? ⟨bk, o + j, none⟩ = some (.string x)) → bk < w.heap.size → xs.length ≤ 140737488355328 → xs.length ≤ c →
      (Lib.join (xs.map (·.data.toList)) sep.data.toList).length ≤ 140737488355328 →
      Calls P f #[.slice (some ⟨bk, o, none⟩) xs.length c, .string sep] w fun e w' => e = .returned (.string ⟨(Lib.join (xs.map (·.data.toList)) sep.data.toList).toArray⟩) ∧ Below w.heap.size w w') : IntrOne P T f joinF := by
  intro args r hr S w vs hG hi hx
  unfold joinF at hr
  split at hr
  · rename_i l sep
    split at hr
    · rename_i y hy
      cases hr
      unfold strings_Join at hy
      cases hc : (decide (l.length ≤ 140737488355328) && decide ((joinB sep.data.toList l).length ≤ 140737488355328)) with
      | false => rw [hc] at hy; cases hy
      | true =>
        rw [hc] at hy
        cases hy
        simp only [Bool.and_eq_true, decide_eq_true_eq] at hc
        obtain ⟨hc2, hc3⟩ := hc
        obtain ⟨v1, r1, rfl, h2, v2, r2, rfl, h3, h4⟩ := hx
        simp only [RPs] at h4
        subst h4
        simp only [RP] at h3
        subst h3
        obtain ⟨a, cap, rfl, hcap, hm⟩ := h2
        by_cases hn : l = []
        · subst hn
          refine (h0 a cap sep w).mono ?_
          rintro e w' ⟨rfl, rfl⟩
          exact ⟨_, rfl, Below.refl _ _, rfl⟩
        · rcases hm with hm | ⟨b, o, rfl, hm⟩
          · exact absurd hm hn
          · have hcell : ∀ (j : Nat) x, (l.map fun s => (⟨⟨s⟩⟩ : ByteArray))[j]? = some x → S b (o + j) (.string x) := fun j x hj => by
              rw [List.getElem?_map] at hj
              cases hl : l[j]? with
              | none => rw [hl] at hj; cases hj
              | some s =>
                rw [hl] at hj
                cases hj
                have := hm j s hl
                simpa [RT, sizeTy] using this
            have hb : b < w.heap.size := by
              cases l with
              | nil => exact absurd rfl hn
              | cons x xs => exact (hi.sta _ _ _ (hcell 0 _ rfl)).2.2.1
            have hmap : ((l.map fun s => (⟨⟨s⟩⟩ : ByteArray)).map (·.data.toList)) = l := by
              rw [List.map_map]
              exact List.map_id l
            have := h1 b o cap (l.map fun s => ⟨⟨s⟩⟩) sep w (fun j x hj => (hi.sta _ _ _ (hcell j x hj)).1) hb (by simpa using hc2) (by simpa using hcap) (by rw [hmap, ← joinB_eq]; exact hc3)
            rw [hmap, List.length_map] at this
            refine this.mono ?_
            rintro e w' ⟨rfl, h4⟩
            refine ⟨_, rfl, h4, ?_⟩
            rw [joinB_eq]
            rfl
    · cases hr
  · cases hr
/-! ### strconv.Itoa -/
def decF : Nat → Nat → List UInt8
  | 0, _ => []
  | k + 1, u => bif decide (u < 10) then [UInt8.ofNat (48 + u)] else decF k (u / 10) ++ [UInt8.ofNat (48 + u % 10)]
theorem decF_eq : ∀ k u, u < 10 ^ (k + 1) → decF (k + 1) u = Lib.decDigits u
  | 0, u, h => by
    unfold decF Lib.decDigits
    have hu : u < 10 := by simpa using h
    simp [hu]
  | k + 1, u, h => by
    unfold decF Lib.decDigits
    by_cases hu : u < 10
    · simp [hu]
    · simp only [hu, decide_false, cond_false, dif_neg, not_false_eq_true]
      rw [decF_eq k (u / 10) (by rw [Nat.pow_succ] at h; omega)]
def itoaL (n : Int) : List UInt8 := bif decide (n < 0) then 45 :: decF 20 n.natAbs else decF 20 n.toNat
theorem itoaL_eq {n : Int} (h0 : -9223372036854775808 ≤ n) (h1 : n ≤ 9223372036854775807) : itoaL n = Lib.itoa n := by
  unfold itoaL Lib.itoa
  by_cases hn : n < 0
  · simp only [hn, decide_true, cond_true, if_true]
    rw [decF_eq 19 n.natAbs (by omega)]
  · simp only [hn, decide_false, cond_false, if_false]
    rw [decF_eq 19 n.toNat (by omega)]
def strconv_Itoa (n : Int) : Option (List UInt8) := bif decide (-9223372036854775808 ≤ n) && decide (n ≤ 9223372036854775807) then some (itoaL n) else none
def itoaF : List PV → Option PV
  | [.v (.int .i64 n)] => bif decide (-9223372036854775808 ≤ n) && decide (n ≤ 9223372036854775807) then some (.v (.string ⟨⟨itoaL n⟩⟩)) else none
  | _ => none
theorem itoaF_eq {n : Int} {y : List UInt8} (h : strconv_Itoa n = some y) : itoaF [.v (.int .i64 n)] = some (.v (.string ⟨⟨y⟩⟩)) := by
  unfold strconv_Itoa at h
  unfold itoaF
  cases hc : (decide (-9223372036854775808 ≤ n) && decide (n ≤ 9223372036854775807)) with
  | false => rw [hc] at h; cases h
  | true => rw [hc] at h; cases h; simp only [hc, cond_true]
/-- A table of the program's stands. -/
def TabOK (P : Program) (T : Tab) (name : String) (k : IntKind) (zs : List Int) : Prop := ∃ g t fr, P.globalNamed name = some g ∧ T.blks g (.cells (zs.map fun z => Value.int k z).toArray t fr)
theorem TabOK.is {P : Program} {T : Tab} {name : String} {k : IntKind} {zs : List Int} (h : TabOK P T name k zs) {S : Mem} {w : World} (hG : Good T S noL w) : Lib.TabIs P w name k zs := by
  obtain ⟨g, t, fr, h1, h2⟩ := h
  have := (hG.2 g _ h2).1
  unfold Lib.TabIs World.var?
  rw [h1]
  simp [this]
theorem TabOK.cell {P : Program} {T : Tab} {name : String} {k : IntKind} {zs : List Int} (h : TabOK P T name k zs) {S : Mem} {w : World} (hG : Good T S noL w) {g : Nat} (hg : P.globalNamed name = some g) {i : Nat} {z : Int} (hz : zs[i]? = some z) : w.cell? ⟨g, i, none⟩ = some (.int k z) := by
  obtain ⟨g', t, fr, h1, h2⟩ := h
  rw [hg] at h1
  cases h1
  have := (hG.2 g _ h2).1
  unfold World.cell?
  simp only
  rw [this]
  simp [hz]
theorem itoaF_ok {P : Program} {T : Tab} {f : FuncId} (htab : TabOK P T "internal/strconv.uint64pow10" .u64 Lib.pow10Tab)
    (h : ∀ (n : Int), -9223372036854775808 ≤ n → n ≤ 9223372036854775807 → ∀ (w : World), Lib.TabIs P w "internal/strconv.uint64pow10" .u64 Lib.pow10Tab →
      Calls P f #[.int .i64 n] w fun e w' => e = .returned (.string ⟨(Lib.itoa n).toArray⟩) ∧ ∃ k os, w' = Go.Sort.grow (w.drewN k) os) : IntrOne P T f itoaF := by
  intro args r hr S w vs hG hi hx
  unfold itoaF at hr
  split at hr
  · rename_i n
    obtain ⟨v1, r1, rfl, h2, h3⟩ := hx
    simp only [RPs] at h3
    subst h3
    simp only [RP] at h2
    subst h2
    cases hc : decide (-9223372036854775808 ≤ n) && decide (n ≤ 9223372036854775807) with
    | false => rw [hc] at hr; cases hr
    | true =>
      rw [hc] at hr
      cases hr
      simp only [Bool.and_eq_true, decide_eq_true_eq] at hc
      refine (h n hc.1 hc.2 w (htab.is hG)).mono ?_
      rintro e w' ⟨rfl, k, os, rfl⟩
      refine ⟨_, rfl, Lib.below_grow _ w (Nat.le_refl _) k os, ?_⟩
      rw [itoaL_eq hc.1 hc.2]
      rfl
  · cases hr
/-- What a world holds of some variables. -/
def tabOf (W : World) (gs : List Nat) : Tab := ⟨fun _ _ _ => False, fun g o => g ∈ gs ∧ W.heap[g]? = some o⟩
theorem tabOf_good (W : World) (gs : List Nat) : Good (tabOf W gs) (allMem W) noL W := ⟨fun _ _ _ h => h.elim, fun g o h => ⟨h.2, fun ⟨i, lo, h3, _⟩ => by cases h3⟩⟩
theorem tabOf_ok {P : Program} {W : World} {gs : List Nat} {name : String} {k : IntKind} {zs : List Int} (h : Lib.TabIs P W name k zs) {g : Nat} (hg : P.globalNamed name = some g) (hm : g ∈ gs) : TabOK P (tabOf W gs) name k zs := by
  unfold Lib.TabIs World.var? at h
  rw [hg] at h
  simp only [Option.bind_some] at h
  split at h
  · rename_i cs t fr hb
    cases h
    exact ⟨g, t, fr, hg, hm, hb⟩
  · cases h
/-! ### What is told of a function, as the machine's answer -/
theorem Ev.told {E : Env} {f : FuncId} {s : Spec} {args : List PV} {g : List PV → Option PV} {fn : Func} {F : Option (Holes s)} (hf : okCall E.P f = some fn) (hg : E.intr f = some g) (h1 : isOne fn.resultTypes.toList = true)
    (h : ∀ x, F = some x → ∃ p, g args = some p ∧ retK s [.p p] [] = some x) (hmi : E.mine f = false := by rfl) : Ev F somes (fun k => (mach E k).call f s args) := by
  intro x hx
  obtain ⟨p, h2, h3⟩ := h x hx
  refine ⟨1, fun k hk => ?_⟩
  obtain ⟨k, rfl⟩ : ∃ j, k = j + 1 := ⟨k - 1, by omega⟩
  show bodyI E (mach E k) f s args = some x
  unfold bodyI
  rw [hf]
  simp only [hg, h2, resIn, h1, hmi, Bool.false_and, Bool.true_or, if_true]
  exact h3
theorem Ev.mine {E : Env} {f : FuncId} {s : Spec} {args : List PV} {g : List PV → Option PV} {fn : Func} {F : Option (Holes s)} (hf : okCall E.P f = some fn) (hg : E.intr f = some g) (h1 : isOne fn.resultTypes.toList = true) (hmi : E.mine f = true)
    (h : ∀ x, F = some x → ∃ t l, g args = some (.sl t l) ∧ retK s [.row 0 (sizeTy t)] [.tc t l] = some x) : Ev F somes (fun k => (mach E k).call f s args) := by
  intro x hx
  obtain ⟨t, l, h2, h3⟩ := h x hx
  refine ⟨1, fun k hk => ?_⟩
  obtain ⟨k, rfl⟩ : ∃ j, k = j + 1 := ⟨k - 1, by omega⟩
  show bodyI E (mach E k) f s args = some x
  unfold bodyI
  rw [hf]
  simp only [hg, h2, resIn, h1, hmi, Bool.true_and]
  exact h3
def strS : Spec := ⟨[.one (.ty .str)], []⟩
/-- A function of one number to another's base, off a machine's runs. -/
def fmtF (F : Int → Option (List UInt8)) : List PV → Option PV
  | [.v (.int .u64 u), .v (.int .i64 b)] => bif (b == 16) then (match F u with | some y => some (.v (.string ⟨⟨y⟩⟩)) | none => none) else none
  | _ => none
def fmtU (F : Int → Option (List UInt8)) (u b : Int) : Option (List UInt8) := bif (b == 16) then F u else none
theorem fmtF_eq {F : Int → Option (List UInt8)} {u b : Int} {y : List UInt8} (h : fmtU F u b = some y) : fmtF F [.v (.int .u64 u), .v (.int .i64 b)] = some (.v (.string ⟨⟨y⟩⟩)) := by
  unfold fmtU at h
  unfold fmtF
  cases hc : (b == 16) with
  | false => rw [hc] at h; cases h
  | true => rw [hc] at h; simp only [cond_true] at h; simp only [h, hc, cond_true]
theorem fmtF_ok {E : Env} {T : Tab} {f : FuncId} {k : Nat} {F : Int → Option (List UInt8)} (hm : E.P.follows .mixedOrders = true) (hin : IntrOK E T) (hok : OkOK E)
    (h : ∀ u y, F u = some y → (mach E k).call f strS [.v (.int .u64 u), .v (.int .i64 16)] = some y) : IntrOne E.P T f (fmtF F) := by
  intro args r hr S w vs hG hi hx
  unfold fmtF at hr
  split at hr
  · rename_i u b
    cases hc : (b == 16) with
    | false => rw [hc] at hr; cases hr
    | true =>
      rw [hc] at hr
      simp only [cond_true] at hr
      have hb : b = 16 := by simpa using hc
      subst hb
      split at hr
      · rename_i y hy
        cases hr
        refine ((mach_sound hm hin hok k).1 f strS _ y (h u y hy) S w vs hG hi hx).mono ?_
        rintro e W' ⟨us, S', L', rfl, h1, h2⟩
        have e1 : rebT strS y = [.p (.v (.string ⟨⟨y⟩⟩))] := rfl
        rw [e1] at h1
        obtain ⟨v, r, rfl, h3, h4⟩ := h1
        rw [RIs_nil] at h4
        subst h4
        have h6 : v = .string ⟨⟨y⟩⟩ := h3
        subst h6
        exact ⟨_, rfl, ⟨h2.kp.os, h2.kp.tape, h2.kp.output, h2.kp.size, fun k hk => h2.kp.block k hk own_noL⟩, rfl⟩
      · cases hr
  · cases hr
end Go.Proofs.YtfaofikhabccoaaGreatDoor.Jv
