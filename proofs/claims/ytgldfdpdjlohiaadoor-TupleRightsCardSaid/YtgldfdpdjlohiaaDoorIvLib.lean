/- Functions of the library that are told, not read: each off its contract; conditions: none. -/
import Derived.Test.YtgldfdpdjlohiaaDoorIvRow
import Derived.Lib.Join
import Derived.Lib.ItoaNum
import Derived.Lib.AppendIntMem
namespace Go.Proofs.YtgldfdpdjlohiaaDoor.Iv
open Go Go.RowKit
/-- What is told of one function holds. -/
def IntrOne (P : Program) (T : Tab) (f : FuncId) (g : List PV → Option PV) : Prop := ∀ args r, g args = some r → ∀ S w vs, Good T S noL w → Inv S noL [] w → RPs S args vs →
  Calls P f vs.toArray w fun e w' => ∃ v, e = .returned v ∧ Below w.heap.size w w' ∧ RP S r v
theorem Inv.below {S : Mem} {w w' : World} (hi : Inv S noL [] w) (h : Below w.heap.size w w') : Inv S noL [] w' :=
  ⟨(fun b k h => by simp at h), (fun _ _ => rfl), (fun i j a b h => by cases h), (fun i a h => by cases h), fun b o u hu => by
    obtain ⟨q1, q2, q3, _⟩ := hi.sta b o u hu
    exact ⟨by rw [h.cell (p := ⟨b, o, none⟩) q3]; exact q1, q2, Nat.lt_of_lt_of_le q3 h.size, fun i a h => by cases h⟩⟩
theorem intrOK_of {E : Env} {T : Tab} (h : ∀ f g, E.intr f = some g → IntrOne E.P T f g) : IntrOK E T := by
  intro f g hg args r hr S w vs hG hi hx
  refine (h f g hg args r hr S w vs hG hi hx).mono ?_
  rintro e w' ⟨v, rfl, h1, h2⟩
  exact ⟨v, S, rfl, fun _ _ _ h => h, fun _ _ _ h => .inl h, hi.below h1, h1, h2⟩
/-! ### strings.Join -/
def strsP : List PV → Option (List ByteArray)
  | [] => some []
  | .v (.string s) :: l => match strsP l with | some r => some (s :: r) | none => none
  | _ :: _ => none
theorem strsP_some {l : List PV} {xs : List ByteArray} (h : strsP l = some xs) : l = xs.map fun s => .v (.string s) := by
  induction l generalizing xs with
  | nil => cases h; rfl
  | cons x l ih =>
    unfold strsP at h
    split at h
    · rename_i he; cases he
    · rename_i s l' he
      cases he
      split at h
      · rename_i r hr; cases h; rw [ih hr]; rfl
      · cases h
    · cases h
def joinL (sep : List UInt8) : List (List UInt8) → List UInt8
  | [] => []
  | [x] => x
  | x :: y :: r => x ++ (sep ++ joinL sep (y :: r))
theorem joinL_eq (sep : List UInt8) : ∀ xs, joinL sep xs = Lib.join xs sep
  | [] => rfl
  | [x] => (Lib.join_one x sep).symm
  | x :: y :: r => by
    rw [joinL, joinL_eq sep (y :: r), Lib.join_cons, Lib.join_cons]
    simp [Lib.joinTail]
def joinF : List PV → Option PV
  | [.ro n l, .v (.string sep)] => match strsP l with
    | some xs => bif decide (xs.length = n) && decide (n ≤ 140737488355328) && decide ((joinL sep.data.toList (xs.map (·.data.toList))).length ≤ 140737488355328) then some (.v (.string ⟨⟨joinL sep.data.toList (xs.map (·.data.toList))⟩⟩)) else none
    | none => none
  | [.v (.slice none 0 0), .v (.string _)] => some (.v (.string ⟨#[]⟩))
  | _ => none
theorem joinF_ok {P : Program} {T : Tab} {f : FuncId}
    (h0 : ∀ (a : Option Addr) (c : Nat) (sep : ByteArray) (w : World), Calls P f #[.slice a 0 c, .string sep] w fun e w' => e = .returned (.string ⟨#[]⟩) ∧ w' = w)
    (h1 : ∀ (bk o c : Nat) (xs : List ByteArray) (sep : ByteArray) (w : World), (∀ (j : Nat) x, xs[j]? = some x → w.cell? ⟨bk, o + j, none⟩ = some (.string x)) → bk < w.heap.size → xs.length ≤ 140737488355328 → xs.length ≤ c →
      (Lib.join (xs.map (·.data.toList)) sep.data.toList).length ≤ 140737488355328 →
      Calls P f #[.slice (some ⟨bk, o, none⟩) xs.length c, .string sep] w fun e w' => e = .returned (.string ⟨(Lib.join (xs.map (·.data.toList)) sep.data.toList).toArray⟩) ∧ Below w.heap.size w w') : IntrOne P T f joinF := by
  intro args r hr S w vs hG hi hx
  unfold joinF at hr
  split at hr
  · rename_i n l sep
    obtain ⟨v1, r1, rfl, ⟨a, cap, rfl, hcap, hm⟩, v2, r2, rfl, h2, h3⟩ := hx
    simp only [RPs] at h3
    subst h3
    simp only [RP] at h2
    subst h2
    split at hr
    · rename_i xs hxs
      have hl := strsP_some hxs
      cases hc : decide (xs.length = n) && decide (n ≤ 140737488355328) && decide ((joinL sep.data.toList (xs.map (·.data.toList))).length ≤ 140737488355328) with
      | false => rw [hc] at hr; cases hr
      | true =>
        rw [hc] at hr
        cases hr
        simp only [Bool.and_eq_true, decide_eq_true_eq] at hc
        obtain ⟨⟨rfl, hc2⟩, hc3⟩ := hc
        rcases hm with ⟨hn, rfl⟩ | ⟨b, o, rfl, hm⟩
        · have : xs = [] := List.eq_nil_of_length_eq_zero hn
          subst this
          refine (h0 a cap sep w).mono ?_
          rintro e w' ⟨rfl, rfl⟩
          exact ⟨_, rfl, Below.refl _ _, rfl⟩
        · by_cases hn : xs = []
          · subst hn
            refine (h0 _ cap sep w).mono ?_
            rintro e w' ⟨rfl, rfl⟩
            exact ⟨_, rfl, Below.refl _ _, rfl⟩
          · obtain ⟨cs, g1, g2⟩ := RPm_range hm
            rw [hl, show (xs.map fun s => PV.v (.string s)) = (xs.map Value.string).map .v from by simp, RPs_mapV'] at g1
            subst g1
            have hcell : ∀ (j : Nat) x, xs[j]? = some x → S b (o + j) (.string x) := fun j x hj => g2 j _ (by simp [hj])
            have hb : b < w.heap.size := by
              cases xs with
              | nil => exact absurd rfl hn
              | cons x xs => exact (hi.sta _ _ _ (hcell 0 x rfl)).2.2.1
            refine (h1 b o cap xs sep w (fun j x hj => (hi.sta _ _ _ (hcell j x hj)).1) hb hc2 hcap (by rw [← joinL_eq]; exact hc3)).mono ?_
            rintro e w' ⟨rfl, h4⟩
            refine ⟨_, rfl, h4, ?_⟩
            rw [joinL_eq]
            rfl
    · cases hr
  · obtain ⟨v1, r1, rfl, h1', v2, r2, rfl, h2, h3⟩ := hx
    simp only [RPs] at h3
    subst h3
    simp only [RP] at h1' h2
    subst h1' h2
    cases hr
    refine (h0 none 0 _ w).mono ?_
    rintro e w' ⟨rfl, rfl⟩
    exact ⟨_, rfl, Below.refl _ _, rfl⟩
  · cases hr
/-! ### strconv.Itoa -/
def decF : Nat → Nat → List UInt8
  | 0, _ => []
  | k + 1, u => bif decide (u < 10) then [UInt8.ofNat (48 + u)] else decF k (u / 10) ++ [UInt8.ofNat (48 + u % 10)]
theorem decF_eq : ∀ k u, u < 10 ^ (k + 1) → decF (k + 1) u = Lib.decDigits u
  | 0, u, h => by
    unfold decF Lib.decDigits
    have hu : u < 10 := by simpa using h
    simp [hu]
  | k + 1, u, h => by
    unfold decF Lib.decDigits
    by_cases hu : u < 10
    · simp [hu]
    · simp only [hu, decide_false, cond_false, dif_neg, not_false_eq_true]
      rw [decF_eq k (u / 10) (by rw [Nat.pow_succ] at h; omega)]
def itoaL (n : Int) : List UInt8 := bif decide (n < 0) then 45 :: decF 20 n.natAbs else decF 20 n.toNat
theorem itoaL_eq {n : Int} (h0 : -9223372036854775808 ≤ n) (h1 : n ≤ 9223372036854775807) : itoaL n = Lib.itoa n := by
  unfold itoaL Lib.itoa
  by_cases hn : n < 0
  · simp only [hn, decide_true, cond_true, if_true]
    rw [decF_eq 19 n.natAbs (by omega)]
  · simp only [hn, decide_false, cond_false, if_false]
    rw [decF_eq 19 n.toNat (by omega)]
def itoaF : List PV → Option PV
  | [.v (.int .i64 n)] => bif decide (-9223372036854775808 ≤ n) && decide (n ≤ 9223372036854775807) then some (.v (.string ⟨⟨itoaL n⟩⟩)) else none
  | _ => none
/-- A table of the program's stands. -/
def TabOK (P : Program) (T : Tab) (name : String) (k : IntKind) (zs : List Int) : Prop := ∃ g t fr, P.globalNamed name = some g ∧ T.blks g (.cells (zs.map fun z => Value.int k z).toArray t fr)
theorem TabOK.is {P : Program} {T : Tab} {name : String} {k : IntKind} {zs : List Int} (h : TabOK P T name k zs) {S : Mem} {w : World} (hG : Good T S noL w) : Lib.TabIs P w name k zs := by
  obtain ⟨g, t, fr, h1, h2⟩ := h
  have := (hG.2 g _ h2).1
  unfold Lib.TabIs World.var?
  rw [h1]
  simp [this]
theorem TabOK.cell {P : Program} {T : Tab} {name : String} {k : IntKind} {zs : List Int} (h : TabOK P T name k zs) {S : Mem} {w : World} (hG : Good T S noL w) {g : Nat} (hg : P.globalNamed name = some g) {i : Nat} {z : Int} (hz : zs[i]? = some z) : w.cell? ⟨g, i, none⟩ = some (.int k z) := by
  obtain ⟨g', t, fr, h1, h2⟩ := h
  rw [hg] at h1
  cases h1
  have := (hG.2 g _ h2).1
  unfold World.cell?
  simp only
  rw [this]
  simp [hz]
theorem itoaF_ok {P : Program} {T : Tab} {f : FuncId} (htab : TabOK P T "internal/strconv.uint64pow10" .u64 Lib.pow10Tab)
    (h : ∀ (n : Int), -9223372036854775808 ≤ n → n ≤ 9223372036854775807 → ∀ (w : World), Lib.TabIs P w "internal/strconv.uint64pow10" .u64 Lib.pow10Tab →
      Calls P f #[.int .i64 n] w fun e w' => e = .returned (.string ⟨(Lib.itoa n).toArray⟩) ∧ ∃ k os, w' = Go.Sort.grow (w.drewN k) os) : IntrOne P T f itoaF := by
  intro args r hr S w vs hG hi hx
  unfold itoaF at hr
  split at hr
  · rename_i n
    obtain ⟨v1, r1, rfl, h2, h3⟩ := hx
    simp only [RPs] at h3
    subst h3
    simp only [RP] at h2
    subst h2
    cases hc : decide (-9223372036854775808 ≤ n) && decide (n ≤ 9223372036854775807) with
    | false => rw [hc] at hr; cases hr
    | true =>
      rw [hc] at hr
      cases hr
      simp only [Bool.and_eq_true, decide_eq_true_eq] at hc
      refine (h n hc.1 hc.2 w (htab.is hG)).mono ?_
      rintro e w' ⟨rfl, k, os, rfl⟩
      refine ⟨_, rfl, Lib.below_grow _ w (Nat.le_refl _) k os, ?_⟩
      rw [itoaL_eq hc.1 hc.2]
      rfl
  · cases hr
/-- What a world holds of some variables. -/
def tabOf (W : World) (gs : List Nat) : Tab := ⟨fun _ _ _ => False, fun g o => g ∈ gs ∧ W.heap[g]? = some o⟩
theorem tabOf_good (W : World) (gs : List Nat) : Good (tabOf W gs) (allMem W) noL W := ⟨fun _ _ _ h => h.elim, fun g o h => ⟨h.2, fun ⟨i, lo, h3, _⟩ => by cases h3⟩⟩
theorem tabOf_ok {P : Program} {W : World} {gs : List Nat} {name : String} {k : IntKind} {zs : List Int} (h : Lib.TabIs P W name k zs) {g : Nat} (hg : P.globalNamed name = some g) (hm : g ∈ gs) : TabOK P (tabOf W gs) name k zs := by
  unfold Lib.TabIs World.var? at h
  rw [hg] at h
  simp only [Option.bind_some] at h
  split at h
  · rename_i cs t fr hb
    cases h
    exact ⟨g, t, fr, hg, hm, hb⟩
  · cases h
end Go.Proofs.YtgldfdpdjlohiaaDoor.Iv
