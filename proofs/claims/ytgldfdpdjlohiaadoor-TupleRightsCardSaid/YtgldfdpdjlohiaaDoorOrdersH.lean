/- TupleOrders: every input's run answers true; conditions: none. -/
import Derived.Test.YtgldfdpdjlohiaaDoorOrdersL
import Derived.Test.YtgldfdpdjlohiaaDoorRowC
namespace Go.Proofs.YtgldfdpdjlohiaaDoor.Iv
open Go
theorem arg26 (a b sf sh sl df dh dl p q : Int) : argP E0.P 26 [.v (.int .i64 a), .v (.int .i64 b), .v (.int .i64 sf), .v (.int .u64 sh), .v (.int .u64 sl), .v (.int .i64 df), .v (.int .u64 dh), .v (.int .u64 dl), .v (.int .i64 p), .v (.int .i64 q)] = .v (.agg ⟨[.int .i64 a, .int .i64 b, .int .i64 sf, .int .u64 sh, .int .u64 sl, .int .i64 df, .int .u64 dh, .int .u64 dl, .int .i64 p, .int .i64 q]⟩) := by kernel_rfl
theorem htrue8 (xs : List PV) (h : ArgsTy E0.P Tryd.f8.params.toList xs) : ∃ k, callP E0 k 8 xs = some (.v (.bool true)) := by
  rw [Tryd.params8] at h
  obtain ⟨ps, _, h1, ⟨qs, _, h2, ⟨rs, r, h3, h4, rfl⟩, rfl⟩, rfl⟩ := h
  obtain ⟨a0, a1, a2, a3, a4, a5, a6, a7, a8, a9, rfl⟩ := open26 h1
  obtain ⟨b0, b1, b2, b3, b4, b5, b6, b7, b8, b9, rfl⟩ := open26 h2
  obtain ⟨c0, c1, c2, c3, c4, c5, c6, c7, c8, c9, rfl⟩ := open26 h3
  have h5 : r = [] := h4
  subst h5
  refine ⟨61, ?_⟩
  rw [arg26, arg26, arg26]
  refine callT_true (P := E0.P) (t := 4) (by kernel_rfl) ?_
  exact (Iv.c8 (Nat.le_refl _) a0 a1 a2 a3 a4 a5 a6 a7 a8 a9 b0 b1 b2 b3 b4 b5 b6 b7 b8 b9 c0 c1 c2 c3 c4 c5 c6 c7 c8 c9 _).trans (by rw [F8_true]; rfl)
end Go.Proofs.YtgldfdpdjlohiaaDoor.Iv
