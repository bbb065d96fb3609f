/- TupleTexts: the row and the card; conditions: none. -/
import Derived.Test.YtgldfdpdjlohiaaDoorTextsL
import Derived.Test.YtgldfdpdjlohiaaDoorRowJ
namespace Go.Proofs.YtgldfdpdjlohiaaDoor.Jv
open Go Go.RowKit Go.ChangeShapes Go.WideShapes Go.ChangeAt
theorem htrue5 (xs : List PV) (h : ArgsTy E0.P Tryd.f5.params.toList xs) : ∃ k, (mach E0 k).call 5 boolS xs = some true := by
  rw [show Tryd.f5.params.toList = [26, 3, 3] by kernel_rfl] at h
  obtain ⟨q0, y0, r0, g0, k0, ⟨q1, y1, r1, g1, k1, ⟨q2, y2, r2, g2, k2, rfl, rfl⟩, rfl⟩, rfl⟩ := h
  rw [show tyT E0.P 8 26 = some (.pair (.int .i64) (.pair (.int .i64) (.pair (.pair (.int .i64) (.pair (.int .u64) (.int .u64))) (.pair (.pair (.int .i64) (.pair (.int .u64) (.int .u64))) (.pair (.int .i64) (.int .i64)))))) by kernel_rfl] at g0; cases g0
  rw [show tyT E0.P 8 3 = some (.int .i64) by kernel_rfl] at g1; cases g1
  rw [show tyT E0.P 8 3 = some (.int .i64) by kernel_rfl] at g2; cases g2
  obtain ⟨k, hk⟩ := c_law14_TupleTexts y0 y1 y2 true (tupleTexts_ok y0 y1 y2 k0 k1 k2)
  refine ⟨k, ?_⟩
  rw [show argP E0.P 26 (cellsT (.pair (.int .i64) (.pair (.int .i64) (.pair (.pair (.int .i64) (.pair (.int .u64) (.int .u64))) (.pair (.pair (.int .i64) (.pair (.int .u64) (.int .u64))) (.pair (.int .i64) (.int .i64)))))) y0) = .v (.agg ⟨[.int .i64 y0.1, .int .i64 y0.2.1, .int .i64 y0.2.2.1.1, .int .u64 y0.2.2.1.2.1, .int .u64 y0.2.2.1.2.2, .int .i64 y0.2.2.2.1.1, .int .u64 y0.2.2.2.1.2.1, .int .u64 y0.2.2.2.1.2.2, .int .i64 y0.2.2.2.2.1, .int .i64 y0.2.2.2.2.2]⟩) by kernel_rfl, show argP E0.P 3 (cellsT (.int .i64) y1) = .v (.int .i64 y1) by kernel_rfl, show argP E0.P 3 (cellsT (.int .i64) y2) = .v (.int .i64 y2) by kernel_rfl]
  exact hk k (Nat.le_refl _)
def w5 : Array Value := #[.agg #[.int .i64 0, .int .i64 0, .int .i64 0, .int .u64 0, .int .u64 0, .int .i64 0, .int .u64 0, .int .u64 0, .int .i64 0, .int .i64 0], .int .i64 0, .int .i64 0]
theorem laid_met5 (os : Os) : laidMet Tryd.prog Rows.tupleTextsRow.laid ((laidWorld os).forCall (fun _ _ => 0) ⟨#[], w5, []⟩).memory :=
  laidMet_of_run' 8 (by kernel_rfl) (by kernel_rfl)
theorem reads5 (os : Os) {H : Type} (enc : TypeId × Value → H) : ∃ ds places, DataW.whole enc Tryd.prog ((laidWorld os).forCall (fun _ _ => 0) ⟨#[], w5, []⟩).memory Tryd.f5.params.toList Rows.tupleTextsSpec.vars false w5.toList 8 = some (ds, [], places) :=
  ⟨[.agg [.lit (.int .i64 0), .lit (.int .i64 0), .agg [.lit (.int .i64 0), .lit (.int .u64 0), .lit (.int .u64 0)], .agg [.lit (.int .i64 0), .lit (.int .u64 0), .lit (.int .u64 0)], .lit (.int .i64 0), .lit (.int .i64 0)], .lit (.int .i64 0), .lit (.int .i64 0)], [], by kernel_rfl⟩
theorem contract5 (H : Type) (enc : TypeId × Value → H) (W : World) (base : Nat) (args : Array Value) (ds gs : List (DataW H)) (before : List MemPlace)
    (hval : ∀ (j : Nat) t v, Tryd.f5.params[j]? = some t → args[j]? = some v → Value.okWide Tryd.prog W .any base t v)
    (hW : DataW.Whole enc Tryd.prog Tryd.f5.params.toList Rows.tupleTextsSpec.vars false W args.toList ds gs before) (hL : laidMetH Tryd.prog Rows.tupleTextsRow.laid W) :
    Calls Tryd.prog 5 args W fun e W' => ∃ v, e = .returned v ∧ Rows.tupleTextsSpec.post enc Tryd.prog Tryd.f5 false true false false W args v W' :=
  law_contract (E := E0) (T := tabOf W [3, 0]) mixed0 (intr_of hL) ok0 (by kernel_rfl) laidOut (by kernel_rfl) rfl Tryd.underlying4 htrue5 rfl
    (fun ds hd => by
      match ds, hd with
      | [d0, d1, d2], _ => rfl) hval hW (tabOf_good W _)
set_option maxRecDepth 100000 in
theorem lifted5 (os : Os) (started : os.Started) (H : Type) (enc : TypeId × Value → H) (F : Stop.Interp) :
    ReturnsInHanded {} Tryd.checked os 5 .any ((OpenSpec.ofChange Rows.tupleTextsSpec).preRow enc Tryd.prog Tryd.f5 Rows.tupleTextsRow.domain false Rows.tupleTextsRow.laid) (((OpenSpec.ofChange Rows.tupleTextsSpec).at F).post enc Tryd.prog Tryd.f5 false true false false) := by
  obtain ⟨ds, places, hx⟩ := reads5 os enc
  refine returnsInHanded_of_row (C := Tryd.checked) (s := OpenSpec.ofChange Rows.tupleTextsSpec) own started (by kernel_rfl) Tryd.func5
    (witness_row_at (enc := enc) (C := Tryd.checked) false (laidWorld os) w5 rfl (by kernel_rfl) (by kernel_rfl) (by kernel_rfl)
      (OpenSpec.preRow_of_cond 8 hx (by kernel_rfl) (fun k hk => by cases hk) (by kernel_rfl) (laid_met5 os))) ?_
  intro W base args ds gs before hval hW _ _ _ hL _ _
  exact contract5 H enc W base args ds gs before hval hW hL
theorem said5 : Rows.TupleTextsSaid :=
  OpenClaim.holds_of_cond 5 Tryd.f5 rfl rfl rfl rfl rfl rfl rfl ⟨rfl, rfl, rfl, rfl, rfl⟩ rfl rfl rfl rfl rfl (by kernel_rfl) Tryd.func5 (by kernel_rfl)
    (of_decide_eq_true (by kernel_rfl)) (by unfold Func.isWrapper; first | (rw [if_pos (by decide +kernel)]; kernel_rfl) | (rw [if_neg (by decide +kernel)]; exact ⟨rfl, rfl⟩))
    (fun os started H enc _ F => by rw [OpenClaim.pre_eq_preRow]; exact lifted5 os started H enc F)
theorem plain5 (f : FuncId) (fn : Func) (hf : Tryd.pinned.checked.prog.funcNamed "stockade/stockadelaw14.TupleTexts" = some f) (hfn : Tryd.pinned.checked.prog.funcs[f]? = some fn) :
    false = Tryd.pinned.checked.prog.looks [] ∧ ∀ (j : Nat) t, fn.params[j]? = some t → Tryd.pinned.checked.prog.wantsStandIn t = false := by
  obtain rfl : f = 5 := Option.some.inj ((show Tryd.prog.funcNamed "stockade/stockadelaw14.TupleTexts" = some 5 by kernel_rfl).symm.trans hf) |>.symm
  obtain rfl : fn = Tryd.f5 := (Option.some.inj (Tryd.func5.symm.trans hfn)).symm
  refine ⟨by kernel_rfl, fun j t ht => ?_⟩
  have h1 : Tryd.f5.params.all (fun t => !Tryd.prog.wantsStandIn t) = true := by kernel_rfl
  have h2 := Array.all_eq_true_iff_forall_mem.1 h1 t (Array.mem_of_getElem? ht)
  exact (show Tryd.prog.wantsStandIn t = false by simpa using h2)
end Go.Proofs.YtgldfdpdjlohiaaDoor.Jv
namespace Go.Proofs.YtgldfdpdjlohiaaDoor
open Go
/-- THE CARD. -/
theorem tupleTexts_card : Rows.TupleTextsCardSaid :=
  Claim7.holds_tied_plain_at .later [] _ _ _ _ Jv.said5 (fun _ h => by cases h) (by kernel_rfl) (fun _ h => by cases h) tupleTexts_row_tie rfl ⟨rfl, rfl⟩ (by kernel_rfl) rfl Jv.plain5 (by kernel_rfl)
end Go.Proofs.YtgldfdpdjlohiaaDoor
