/- TupleRights: the row and the card; conditions: none. -/
import Derived.Test.YtgldfdpdjlohiaaDoorRightsH
namespace Go.Proofs.YtgldfdpdjlohiaaDoor.Iv
open Go Go.RowKit Go.ChangeShapes Go.WideShapes Go.ChangeAt
def w7 : Array Value := #[.agg #[.int .i64 0, .int .i64 0, .int .i64 0, .int .u64 0, .int .u64 0, .int .i64 0, .int .u64 0, .int .u64 0, .int .i64 0, .int .i64 0], .agg #[.int .i64 0, .int .i64 0, .int .i64 0, .int .u64 0, .int .u64 0, .int .i64 0, .int .u64 0, .int .u64 0, .int .i64 0, .int .i64 0]]
theorem laid_met7 (os : Os) : laidMet Tryd.prog Rows.tupleRightsRow.laid ((laidWorld os).forCall (fun _ _ => 0) ⟨#[], w7, []⟩).memory :=
  laidMet_of_run' 8 (by kernel_rfl) (by kernel_rfl)
theorem reads7 (os : Os) {H : Type} (enc : TypeId × Value → H) : ∃ ds places, DataW.whole enc Tryd.prog ((laidWorld os).forCall (fun _ _ => 0) ⟨#[], w7, []⟩).memory Tryd.f7.params.toList Rows.tupleRightsSpec.vars false w7.toList 8 = some (ds, [], places) :=
  ⟨[.agg [.lit (.int .i64 0), .lit (.int .i64 0), .agg [.lit (.int .i64 0), .lit (.int .u64 0), .lit (.int .u64 0)], .agg [.lit (.int .i64 0), .lit (.int .u64 0), .lit (.int .u64 0)], .lit (.int .i64 0), .lit (.int .i64 0)], .agg [.lit (.int .i64 0), .lit (.int .i64 0), .agg [.lit (.int .i64 0), .lit (.int .u64 0), .lit (.int .u64 0)], .agg [.lit (.int .i64 0), .lit (.int .u64 0), .lit (.int .u64 0)], .lit (.int .i64 0), .lit (.int .i64 0)]], [], by kernel_rfl⟩
theorem contract7 (H : Type) (enc : TypeId × Value → H) (W : World) (base : Nat) (args : Array Value) (ds gs : List (DataW H)) (before : List MemPlace)
    (hval : ∀ (j : Nat) t v, Tryd.f7.params[j]? = some t → args[j]? = some v → Value.okWide Tryd.prog W .any base t v)
    (hW : DataW.Whole enc Tryd.prog Tryd.f7.params.toList Rows.tupleRightsSpec.vars false W args.toList ds gs before) (hL : laidMetH Tryd.prog Rows.tupleRightsRow.laid W) :
    Calls Tryd.prog 7 args W fun e W' => ∃ v, e = .returned v ∧ Rows.tupleRightsSpec.post enc Tryd.prog Tryd.f7 false true false false W args v W' :=
  law_contract (E := E0) (T := tabOf W [3, 0]) mixed0 (intr_of hL) ok0 (by kernel_rfl) laidOut (by kernel_rfl) rfl Tryd.underlying4 htrue7 rfl
    (fun ds hd => by
      match ds, hd with
      | [d0, d1], _ => rfl) hval hW (tabOf_good W _)
set_option maxRecDepth 100000 in
theorem lifted7 (os : Os) (started : os.Started) (H : Type) (enc : TypeId × Value → H) (F : Stop.Interp) :
    ReturnsInHanded {} Tryd.checked os 7 .any ((OpenSpec.ofChange Rows.tupleRightsSpec).preRow enc Tryd.prog Tryd.f7 Rows.tupleRightsRow.domain false Rows.tupleRightsRow.laid) (((OpenSpec.ofChange Rows.tupleRightsSpec).at F).post enc Tryd.prog Tryd.f7 false true false false) := by
  obtain ⟨ds, places, hx⟩ := reads7 os enc
  refine returnsInHanded_of_row (C := Tryd.checked) (s := OpenSpec.ofChange Rows.tupleRightsSpec) own started (by kernel_rfl) Tryd.func7
    (witness_row_at (enc := enc) (C := Tryd.checked) false (laidWorld os) w7 rfl (by kernel_rfl) (by kernel_rfl) (by kernel_rfl)
      (OpenSpec.preRow_of_cond 8 hx (by kernel_rfl) (fun k hk => by cases hk) (by kernel_rfl) (laid_met7 os))) ?_
  intro W base args ds gs before hval hW _ _ _ hL _ _
  exact contract7 H enc W base args ds gs before hval hW hL
theorem said7 : Rows.TupleRightsSaid :=
  OpenClaim.holds_of_cond 7 Tryd.f7 rfl rfl rfl rfl rfl rfl rfl ⟨rfl, rfl, rfl, rfl, rfl⟩ rfl rfl rfl rfl rfl (by kernel_rfl) Tryd.func7 (by kernel_rfl)
    (of_decide_eq_true (by kernel_rfl)) (by unfold Func.isWrapper; first | (rw [if_pos (by decide +kernel)]; kernel_rfl) | (rw [if_neg (by decide +kernel)]; exact ⟨rfl, rfl⟩))
    (fun os started H enc _ F => by rw [OpenClaim.pre_eq_preRow]; exact lifted7 os started H enc F)
theorem plain7 (f : FuncId) (fn : Func) (hf : Tryd.pinned.checked.prog.funcNamed "stockade/stockadelaw14.TupleRights" = some f) (hfn : Tryd.pinned.checked.prog.funcs[f]? = some fn) :
    false = Tryd.pinned.checked.prog.looks [] ∧ ∀ (j : Nat) t, fn.params[j]? = some t → Tryd.pinned.checked.prog.wantsStandIn t = false := by
  obtain rfl : f = 7 := Option.some.inj ((show Tryd.prog.funcNamed "stockade/stockadelaw14.TupleRights" = some 7 by kernel_rfl).symm.trans hf) |>.symm
  obtain rfl : fn = Tryd.f7 := (Option.some.inj (Tryd.func7.symm.trans hfn)).symm
  refine ⟨by kernel_rfl, fun j t ht => ?_⟩
  have h1 : Tryd.f7.params.all (fun t => !Tryd.prog.wantsStandIn t) = true := by kernel_rfl
  have h2 := Array.all_eq_true_iff_forall_mem.1 h1 t (Array.mem_of_getElem? ht)
  exact (show Tryd.prog.wantsStandIn t = false by simpa using h2)
end Go.Proofs.YtgldfdpdjlohiaaDoor.Iv
namespace Go.Proofs.YtgldfdpdjlohiaaDoor
open Go
/-- THE CARD. -/
theorem tupleRights_card : Rows.TupleRightsCardSaid :=
  Claim7.holds_tied_plain_at .later [] _ _ _ _ Iv.said7 (fun _ h => by cases h) (by kernel_rfl) (fun _ h => by cases h) tupleRights_row_tie rfl ⟨rfl, rfl⟩ (by kernel_rfl) rfl Iv.plain7 (by kernel_rfl)
end Go.Proofs.YtgldfdpdjlohiaaDoor
