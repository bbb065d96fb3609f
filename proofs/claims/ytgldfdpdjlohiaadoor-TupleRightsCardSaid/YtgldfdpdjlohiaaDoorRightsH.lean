/- TupleRights: every input's run answers true; conditions: none. -/
import Derived.Test.YtgldfdpdjlohiaaDoorRightsL
import Derived.Test.YtgldfdpdjlohiaaDoorOrdersH
namespace Go.Proofs.YtgldfdpdjlohiaaDoor.Iv
open Go
theorem min_u64 : IntKind.u64.min = 0 := by decide +kernel
theorem open26r {ps : List PV} (h : IsTy Tryd.prog 8 26 ps) : ∃ a b sf sh sl df dh dl p q, 0 ≤ sl ∧ 0 ≤ dl ∧ ps = [.v (.int .i64 a), .v (.int .i64 b), .v (.int .i64 sf), .v (.int .u64 sh), .v (.int .u64 sl), .v (.int .i64 df), .v (.int .u64 dh), .v (.int .u64 dl), .v (.int .i64 p), .v (.int .i64 q)] := by
  simp only [IsTy, Tryd.underlying26, isF, Tryd.underlying3, Tryd.underlying24, Tryd.underlying22] at h
  obtain ⟨_, _, ⟨a, _, _, rfl⟩, ⟨_, _, ⟨b, _, _, rfl⟩, ⟨_, _, ⟨_, _, ⟨sf, _, _, rfl⟩, ⟨_, _, ⟨sh, _, _, rfl⟩, ⟨_, _, ⟨sl, g1, _, rfl⟩, rfl, rfl⟩, rfl⟩, rfl⟩, ⟨_, _, ⟨_, _, ⟨df, _, _, rfl⟩, ⟨_, _, ⟨dh, _, _, rfl⟩, ⟨_, _, ⟨dl, g2, _, rfl⟩, rfl, rfl⟩, rfl⟩, rfl⟩, ⟨_, _, ⟨p, _, _, rfl⟩, ⟨_, _, ⟨q, _, _, rfl⟩, rfl, rfl⟩, rfl⟩, rfl⟩, rfl⟩, rfl⟩, rfl⟩ := h
  rw [min_u64] at g1 g2
  exact ⟨a, b, sf, sh, sl, df, dh, dl, p, q, g1, g2, rfl⟩
theorem htrue7 (xs : List PV) (h : ArgsTy E0.P Tryd.f7.params.toList xs) : ∃ k, callP E0 k 7 xs = some (.v (.bool true)) := by
  rw [Tryd.params7] at h
  obtain ⟨ps, _, h1, ⟨qs, r, h2, h4, rfl⟩, rfl⟩ := h
  obtain ⟨a0, a1, a2, a3, a4, a5, a6, a7, a8, a9, g1, g2, rfl⟩ := open26r h1
  obtain ⟨b0, b1, b2, b3, b4, b5, b6, b7, b8, b9, _, _, rfl⟩ := open26r h2
  have h5 : r = [] := h4
  subst h5
  refine ⟨61, ?_⟩
  rw [arg26, arg26]
  refine callT_true (P := E0.P) (t := 4) (by kernel_rfl) ?_
  exact (Iv.c7 (Nat.le_refl _) a0 a1 a2 a3 a4 a5 a6 a7 a8 a9 b0 b1 b2 b3 b4 b5 b6 b7 b8 b9 _).trans (by rw [F7_true g1 g2]; rfl)
end Go.Proofs.YtgldfdpdjlohiaaDoor.Iv
