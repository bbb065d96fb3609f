/- TupleUnlike: the row and the card; conditions: none. -/
import Derived.Test.YtgldfdpdjlohiaaDoorUnlike2
import Derived.Test.YtgldfdpdjlohiaaDoorRowJ
namespace Go.Proofs.YtgldfdpdjlohiaaDoor.Jv
open Go Go.RowKit Go.ChangeShapes Go.WideShapes Go.ChangeAt
theorem htrue4 (xs : List PV) (h : ArgsTy E0.P Tryd.f4.params.toList xs) : ∃ k, (mach E0 k).call 4 boolS xs = some true := by
  rw [show Tryd.f4.params.toList = [26, 26] by kernel_rfl] at h
  obtain ⟨q0, y0, r0, g0, k0, ⟨q1, y1, r1, g1, k1, rfl, rfl⟩, rfl⟩ := h
  rw [show tyT E0.P 8 26 = some (.pair (.int .i64) (.pair (.int .i64) (.pair (.pair (.int .i64) (.pair (.int .u64) (.int .u64))) (.pair (.pair (.int .i64) (.pair (.int .u64) (.int .u64))) (.pair (.int .i64) (.int .i64)))))) by kernel_rfl] at g0; cases g0
  rw [show tyT E0.P 8 26 = some (.pair (.int .i64) (.pair (.int .i64) (.pair (.pair (.int .i64) (.pair (.int .u64) (.int .u64))) (.pair (.pair (.int .i64) (.pair (.int .u64) (.int .u64))) (.pair (.int .i64) (.int .i64)))))) by kernel_rfl] at g1; cases g1
  obtain ⟨k, hk⟩ := c_law14_TupleUnlike y0 y1 true (tupleUnlike_ok y0 y1 k0 k1)
  refine ⟨k, ?_⟩
  rw [show argP E0.P 26 (cellsT (.pair (.int .i64) (.pair (.int .i64) (.pair (.pair (.int .i64) (.pair (.int .u64) (.int .u64))) (.pair (.pair (.int .i64) (.pair (.int .u64) (.int .u64))) (.pair (.int .i64) (.int .i64)))))) y0) = .v (.agg ⟨[.int .i64 y0.1, .int .i64 y0.2.1, .int .i64 y0.2.2.1.1, .int .u64 y0.2.2.1.2.1, .int .u64 y0.2.2.1.2.2, .int .i64 y0.2.2.2.1.1, .int .u64 y0.2.2.2.1.2.1, .int .u64 y0.2.2.2.1.2.2, .int .i64 y0.2.2.2.2.1, .int .i64 y0.2.2.2.2.2]⟩) by kernel_rfl, show argP E0.P 26 (cellsT (.pair (.int .i64) (.pair (.int .i64) (.pair (.pair (.int .i64) (.pair (.int .u64) (.int .u64))) (.pair (.pair (.int .i64) (.pair (.int .u64) (.int .u64))) (.pair (.int .i64) (.int .i64)))))) y1) = .v (.agg ⟨[.int .i64 y1.1, .int .i64 y1.2.1, .int .i64 y1.2.2.1.1, .int .u64 y1.2.2.1.2.1, .int .u64 y1.2.2.1.2.2, .int .i64 y1.2.2.2.1.1, .int .u64 y1.2.2.2.1.2.1, .int .u64 y1.2.2.2.1.2.2, .int .i64 y1.2.2.2.2.1, .int .i64 y1.2.2.2.2.2]⟩) by kernel_rfl]
  exact hk k (Nat.le_refl _)
def w4 : Array Value := #[.agg #[.int .i64 0, .int .i64 0, .int .i64 0, .int .u64 0, .int .u64 0, .int .i64 0, .int .u64 0, .int .u64 0, .int .i64 0, .int .i64 0], .agg #[.int .i64 0, .int .i64 0, .int .i64 0, .int .u64 0, .int .u64 0, .int .i64 0, .int .u64 0, .int .u64 0, .int .i64 0, .int .i64 0]]
theorem laid_met4 (os : Os) : laidMet Tryd.prog Rows.tupleUnlikeRow.laid ((laidWorld os).forCall (fun _ _ => 0) ⟨#[], w4, []⟩).memory :=
  laidMet_of_run' 8 (by kernel_rfl) (by kernel_rfl)
theorem reads4 (os : Os) {H : Type} (enc : TypeId × Value → H) : ∃ ds places, DataW.whole enc Tryd.prog ((laidWorld os).forCall (fun _ _ => 0) ⟨#[], w4, []⟩).memory Tryd.f4.params.toList Rows.tupleUnlikeSpec.vars false w4.toList 8 = some (ds, [], places) :=
  ⟨[.agg [.lit (.int .i64 0), .lit (.int .i64 0), .agg [.lit (.int .i64 0), .lit (.int .u64 0), .lit (.int .u64 0)], .agg [.lit (.int .i64 0), .lit (.int .u64 0), .lit (.int .u64 0)], .lit (.int .i64 0), .lit (.int .i64 0)], .agg [.lit (.int .i64 0), .lit (.int .i64 0), .agg [.lit (.int .i64 0), .lit (.int .u64 0), .lit (.int .u64 0)], .agg [.lit (.int .i64 0), .lit (.int .u64 0), .lit (.int .u64 0)], .lit (.int .i64 0), .lit (.int .i64 0)]], [], by kernel_rfl⟩
theorem contract4 (H : Type) (enc : TypeId × Value → H) (W : World) (base : Nat) (args : Array Value) (ds gs : List (DataW H)) (before : List MemPlace)
    (hval : ∀ (j : Nat) t v, Tryd.f4.params[j]? = some t → args[j]? = some v → Value.okWide Tryd.prog W .any base t v)
    (hW : DataW.Whole enc Tryd.prog Tryd.f4.params.toList Rows.tupleUnlikeSpec.vars false W args.toList ds gs before) (hL : laidMetH Tryd.prog Rows.tupleUnlikeRow.laid W) :
    Calls Tryd.prog 4 args W fun e W' => ∃ v, e = .returned v ∧ Rows.tupleUnlikeSpec.post enc Tryd.prog Tryd.f4 false true false false W args v W' :=
  law_contract (E := E0) (T := tabOf W [3, 0]) mixed0 (intr_of hL) ok0 (by kernel_rfl) laidOut (by kernel_rfl) rfl Tryd.underlying4 htrue4 rfl
    (fun ds hd => by
      match ds, hd with
      | [d0, d1], _ => rfl) hval hW (tabOf_good W _)
set_option maxRecDepth 100000 in
theorem lifted4 (os : Os) (started : os.Started) (H : Type) (enc : TypeId × Value → H) (F : Stop.Interp) :
    ReturnsInHanded {} Tryd.checked os 4 .any ((OpenSpec.ofChange Rows.tupleUnlikeSpec).preRow enc Tryd.prog Tryd.f4 Rows.tupleUnlikeRow.domain false Rows.tupleUnlikeRow.laid) (((OpenSpec.ofChange Rows.tupleUnlikeSpec).at F).post enc Tryd.prog Tryd.f4 false true false false) := by
  obtain ⟨ds, places, hx⟩ := reads4 os enc
  refine returnsInHanded_of_row (C := Tryd.checked) (s := OpenSpec.ofChange Rows.tupleUnlikeSpec) own started (by kernel_rfl) Tryd.func4
    (witness_row_at (enc := enc) (C := Tryd.checked) false (laidWorld os) w4 rfl (by kernel_rfl) (by kernel_rfl) (by kernel_rfl)
      (OpenSpec.preRow_of_cond 8 hx (by kernel_rfl) (fun k hk => by cases hk) (by kernel_rfl) (laid_met4 os))) ?_
  intro W base args ds gs before hval hW _ _ _ hL _ _
  exact contract4 H enc W base args ds gs before hval hW hL
theorem said4 : Rows.TupleUnlikeSaid :=
  OpenClaim.holds_of_cond 4 Tryd.f4 rfl rfl rfl rfl rfl rfl rfl ⟨rfl, rfl, rfl, rfl, rfl⟩ rfl rfl rfl rfl rfl (by kernel_rfl) Tryd.func4 (by kernel_rfl)
    (of_decide_eq_true (by kernel_rfl)) (by unfold Func.isWrapper; first | (rw [if_pos (by decide +kernel)]; kernel_rfl) | (rw [if_neg (by decide +kernel)]; exact ⟨rfl, rfl⟩))
    (fun os started H enc _ F => by rw [OpenClaim.pre_eq_preRow]; exact lifted4 os started H enc F)
theorem plain4 (f : FuncId) (fn : Func) (hf : Tryd.pinned.checked.prog.funcNamed "stockade/stockadelaw14.TupleUnlike" = some f) (hfn : Tryd.pinned.checked.prog.funcs[f]? = some fn) :
    false = Tryd.pinned.checked.prog.looks [] ∧ ∀ (j : Nat) t, fn.params[j]? = some t → Tryd.pinned.checked.prog.wantsStandIn t = false := by
  obtain rfl : f = 4 := Option.some.inj ((show Tryd.prog.funcNamed "stockade/stockadelaw14.TupleUnlike" = some 4 by kernel_rfl).symm.trans hf) |>.symm
  obtain rfl : fn = Tryd.f4 := (Option.some.inj (Tryd.func4.symm.trans hfn)).symm
  refine ⟨by kernel_rfl, fun j t ht => ?_⟩
  have h1 : Tryd.f4.params.all (fun t => !Tryd.prog.wantsStandIn t) = true := by kernel_rfl
  have h2 := Array.all_eq_true_iff_forall_mem.1 h1 t (Array.mem_of_getElem? ht)
  exact (show Tryd.prog.wantsStandIn t = false by simpa using h2)
end Go.Proofs.YtgldfdpdjlohiaaDoor.Jv
namespace Go.Proofs.YtgldfdpdjlohiaaDoor
open Go
/-- THE CARD. -/
theorem tupleUnlike_card : Rows.TupleUnlikeCardSaid :=
  Claim7.holds_tied_plain_at .later [] _ _ _ _ Jv.said4 (fun _ h => by cases h) (by kernel_rfl) (fun _ h => by cases h) tupleUnlike_row_tie rfl ⟨rfl, rfl⟩ (by kernel_rfl) rfl Jv.plain4 (by kernel_rfl)
end Go.Proofs.YtgldfdpdjlohiaaDoor
