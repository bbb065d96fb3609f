/- TupleBack: the law, plainly; conditions: none. -/
import Derived.Test.YtgldfdpdjlohiaaDoorBackF
namespace Go.Proofs.YtgldfdpdjlohiaaDoor.Iv
open Go
def B24 (a b c : Int) : Bool := (F24 a b c).getD false
theorem F24_eq (a b c : Int) : F24 a b c = some (B24 a b c) := by
  unfold B24 F24
  cases (a == 4) <;> cases (b == 0) <;> cases (a == 6) <;> rfl
def S25 (a b : Int) : ByteArray := (F25 a b).getD ⟨⟨[]⟩⟩
theorem F25_eq (a b : Int) : F25 a b = some (S25 a b) := by
  unfold S25 F25
  cases (b == 6) <;> cases (b == 17) <;> cases (b == 1) <;> cases (a == 4) <;> cases (b == 58) <;> cases (a == 6) <;> rfl
def B26 (a : Int) : Bool := (F26 a).getD false
theorem F26_eq (a : Int) : F26 a = some (B26 a) := by
  unfold B26 F26
  cases decide (a ≥ 0) <;> rfl
def W25 (a b : Int) : Bool := !strEq (S25 a b) { data := #[] }
theorem F10_eq (a b sf sh sl df dh dl p q : Int) : F10 a b sf sh sl df dh dl p q = some ((sf == a) && ((df == a) && (B24 sf sh sl && (B24 df dh dl && (W25 a b && (B26 p && B26 q)))))) := by
  unfold F10
  simp only [F24_eq, F25_eq, F26_eq, Option.bind_some]
  have hw : (!strEq (S25 a b) { data := #[] }) = W25 a b := rfl
  rw [hw]
  generalize (sf == a) = x1
  generalize (df == a) = x2
  generalize B24 sf sh sl = x3
  generalize B24 df dh dl = x4
  generalize W25 a b = x5
  generalize B26 p = x6
  generalize B26 q = x7
  cases x1 <;> cases x2 <;> cases x3 <;> cases x4 <;> cases x5 <;> cases x6 <;> cases x7 <;> rfl
theorem F3_true (a b sf sh sl df dh dl p q : Int) : F3 a b sf sh sl df dh dl p q = some true := by
  unfold F3 F9
  simp only [Option.bind_some, F10_eq, F11, beq_self_eq_true, Bool.and_self, cond_true]
  generalize (sf == a) = x1
  generalize (df == a) = x2
  generalize B24 sf sh sl = x3
  generalize B24 df dh dl = x4
  generalize W25 a b = x5
  generalize B26 p = x6
  generalize B26 q = x7
  cases x1 <;> cases x2 <;> cases x3 <;> cases x4 <;> cases x5 <;> cases x6 <;> cases x7 <;> rfl
theorem law3 (a b sf sh sl df dh dl p q : Int) : callP E0 61 3 [.v (.agg ⟨[.int .i64 a, .int .i64 b, .int .i64 sf, .int .u64 sh, .int .u64 sl, .int .i64 df, .int .u64 dh, .int .u64 dl, .int .i64 p, .int .i64 q]⟩)] = some (.v (.bool true)) := by
  refine callT_true (P := E0.P) (t := 4) (by kernel_rfl) ?_
  exact (c3 (Nat.le_refl _) a b sf sh sl df dh dl p q _).trans (by rw [F3_true]; rfl)
end Go.Proofs.YtgldfdpdjlohiaaDoor.Iv
