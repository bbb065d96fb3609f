/- From the machine's equations to plain Lean functions: what commutes; conditions: none. -/
import Derived.Test.YtgldfdpdjlohiaaDoorIvLib
namespace Go.Proofs.YtgldfdpdjlohiaaDoor.Iv
open Go
/-- What becomes of a call's answer. -/
def postK (P : Program) (ts : List TypeId) (cs : List CK) (K : KTy cs) (p : PV) : R := match resIn ts p with
  | some xs => match spread P ts xs with
    | some ys => elimT cs ys K
    | none => none
  | none => none
def outP (r : IV × Hp) : Option PV := freeze r.2 3 r.1
theorem callT_call {E : Env} {k : Nat} {f : FuncId} (hf : E.intr f = none) (args : List PV) (ts : List TypeId) (cs : List CK) (K : KTy cs) :
    callT E.P (callP E k) f args false ts cs K = (callN E k f (args.map .p) []).bind fun r => (outP r).bind (postK E.P ts cs K) := by
  unfold callT
  have : callP E k f args = (callN E k f (args.map .p) []).bind outP := by
    unfold callP cpOf
    rw [hf]
    simp only
    show _ = ((mach E k).call f (args.map .p) []).bind outP
    generalize (mach E k).call f (args.map .p) [] = q
    cases q with
    | none => rfl
    | some r => rfl
  rw [this]
  simp only [Bool.false_and, Bool.false_eq_true, if_false]
  cases callN E k f (args.map .p) [] with
  | none => rfl
  | some r =>
    simp only [Option.bind_some]
    cases outP r with
    | none => rfl
    | some p => rfl
theorem callT_lent {P : Program} {cp : CallP} {f : FuncId} {args : List PV} {lent : Bool} {ts : List TypeId} {cs : List CK} {K : KTy cs} (h : (lent && !flatK cs) = false) : callT P cp f args lent ts cs K = callT P cp f args false ts cs K := by
  unfold callT
  rw [h]
  rfl
theorem callT_call' {E : Env} {k : Nat} {f : FuncId} {lent : Bool} {cs : List CK} (hf : E.intr f = none) (h : (lent && !flatK cs) = false) (args : List PV) (ts : List TypeId) (K : KTy cs) :
    callT E.P (callP E k) f args lent ts cs K = (callN E k f (args.map .p) []).bind fun r => (outP r).bind (postK E.P ts cs K) := (callT_lent h).trans (callT_call hf args ts cs K)
theorem callT_told {E : Env} {k : Nat} {f : FuncId} {g : List PV → Option PV} (hf : E.intr f = some g) (args : List PV) (ts : List TypeId) (cs : List CK) (K : KTy cs) :
    callT E.P (callP E k) f args false ts cs K = (g args).bind (postK E.P ts cs K) := by
  unfold callT
  have : callP E k f args = g args := by
    unfold callP cpOf
    rw [hf]
  rw [this]
  simp only [Bool.false_and, Bool.false_eq_true, if_false]
  cases g args with
  | none => rfl
  | some p => rfl
theorem bif_bind {α β : Type} (c : Bool) (x y : Option α) (f : α → Option β) : (bif c then x else y).bind f = bif c then x.bind f else y.bind f := by cases c <;> rfl
theorem ite_bind {α β : Type} (c : Prop) [Decidable c] (x y : Option α) (f : α → Option β) : (if c then x else y).bind f = if c then x.bind f else y.bind f := by split <;> rfl
/-- The functions that have been looked at. -/
def lookedB (E : Env) (l : List FuncId) : Bool := l.all fun f => match E.P.funcs[f]? with
  | some fn => match fn.body with
    | some c => codeOK E c
    | none => true
  | none => true
theorem okOK_of {E : Env} {l : List FuncId} (hl : ∀ f, E.ok f = true → l.contains f = true) (h : lookedB E l = true) : OkOK E := by
  intro f fn c h1 h2 h3
  have h4 := List.all_eq_true.1 h f (by simpa using hl f h1)
  rw [h2] at h4
  simp only [h3] at h4
  exact h4
/-- A law's answer, as its caller would meet it. -/
theorem callT_true {P : Program} {cp : CallP} {f : FuncId} {args : List PV} {t : TypeId} (hagg : isAggT P t = false) (h : callT P cp f args false [t] [.bool] (fun b => bif b then some (.undef, []) else none) = some (.undef, [])) : cp f args = some (.v (.bool true)) := by
  unfold callT at h
  simp only [Bool.false_and, Bool.false_eq_true, if_false] at h
  split at h
  · rename_i p hp
    rw [hp]
    simp only [resIn, isOne] at h
    split at h
    · rename_i ys hys
      simp only [spread, hagg] at hys
      split at hys
      · cases hys
        simp only [elimT] at h
        split at h
        · rename_i b hb
          cases b with
          | false => cases h
          | true =>
            unfold asB at hb
            split at hb
            · cases hb; rfl
            · cases hb
        · cases h
      · cases hys
    · cases h
  · cases h
end Go.Proofs.YtgldfdpdjlohiaaDoor.Iv
