/- FtpCuts: the row and the card; conditions: none. -/
import Derived.Test.YtpkhlncohbakkaaDoorCutsL
import Derived.Test.YtpkhlncohbakkaaDoorRowJ
namespace Go.Proofs.YtpkhlncohbakkaaDoor.Jv
open Go Go.RowKit Go.ChangeShapes Go.WideShapes Go.ChangeAt
set_option linter.unusedVariables false
theorem htrue6 (xs : List PV) (h : ArgsTy E0.P upQ Tryd.f6.params.toList xs) : ∃ k, (mach E0 k).call 6 boolS xs = some true := by
  rw [show Tryd.f6.params.toList = [37, 22, 3] by kernel_rfl] at h
  obtain ⟨q0, y0, r0, g0, k0, ⟨q1, y1, r1, g1, k1, ⟨q2, y2, r2, g2, k2, rfl, rfl⟩, rfl⟩, rfl⟩ := h
  rw [show tyT E0.P 8 37 = some (.pair (.int .i64) (.int .i64)) by kernel_rfl] at g0; cases g0
  rw [show tyT E0.P 8 22 = some (.sl .u8) by kernel_rfl] at g1; cases g1
  rw [show tyT E0.P 8 3 = some (.int .i64) by kernel_rfl] at g2; cases g2
  obtain ⟨k, hk⟩ := c_law18_FtpCuts y0 y1 y2 true (ftpCuts_ok y0 y1 y2 k0 k1 k2)
  refine ⟨k, ?_⟩
  rw [show argP E0.P 37 (cellsT (.pair (.int .i64) (.int .i64)) y0) = .v (.agg ⟨[.int .i64 y0.1, .int .i64 y0.2]⟩) by kernel_rfl, show argP E0.P 22 (cellsT (.sl .u8) y1) = .sl .u8 y1 by kernel_rfl, show argP E0.P 3 (cellsT (.int .i64) y2) = .v (.int .i64 y2) by kernel_rfl]
  exact hk k (Nat.le_refl _)
def w6 : Array Value := #[.agg #[.int .i64 0, .int .i64 0], .slice none 0 0, .int .i64 0]
theorem laid_met6 (os : Os) : laidMet Tryd.prog Rows.ftpCutsUptoRow.laid ((laidWorld os).forCall (fun _ _ => 0) ⟨#[], w6, []⟩).memory :=
  laidMet_of_run' 8 (by kernel_rfl) (by kernel_rfl)
theorem reads6 (os : Os) {H : Type} (enc : TypeId × Value → H) : ∃ places, DataW.whole enc Tryd.prog ((laidWorld os).forCall (fun _ _ => 0) ⟨#[], w6, []⟩).memory Tryd.f6.params.toList Rows.ftpCutsSpec.vars false w6.toList 8 = some ([.agg [.lit (.int .i64 0), .lit (.int .i64 0)], .nil, .lit (.int .i64 0)], [], places) :=
  ⟨[], by kernel_rfl⟩
set_option maxRecDepth 100000 in
theorem contract6 (H : Type) (enc : TypeId × Value → H) (W : World) (base : Nat) (args : Array Value) (ds gs : List (DataW H)) (before : List MemPlace)
    (hval : ∀ (j : Nat) t v, Tryd.f6.params[j]? = some t → args[j]? = some v → Value.okWide Tryd.prog W .any base t v)
    (hW : DataW.Whole enc Tryd.prog Tryd.f6.params.toList Rows.ftpCutsSpec.vars false W args.toList ds gs before) (hL : laidMetH Tryd.prog Rows.ftpCutsUptoRow.laid W) (hS : W.ShapedOpen Tryd.prog) (hk : Rows.uptoSmall H (ds ++ gs) = true) :
    Calls Tryd.prog 6 args W fun e W' => ∃ v, e = .returned v ∧ Rows.ftpCutsSpec.post enc Tryd.prog Tryd.f6 false true false false W args v W' :=
  law_contract (E := E0) (T := tabOf W [0, 1, 2, 3, 4, 5]) mixed0 (intr_of hL hS) ok0 (by kernel_rfl) laidOut (by kernel_rfl) rfl Tryd.underlying4 htrue6 rfl
    (fun ds hd => by
      match ds, hd with
      | [d0, d1, d2], _ => rfl) hval hW (tabOf_good W _) (upto_Q hk)
set_option maxRecDepth 100000 in
theorem lifted6 (os : Os) (started : os.Started) (H : Type) (enc : TypeId × Value → H) (F : Stop.Interp) :
    ReturnsInHanded {} Tryd.checked os 6 .any ((Rows.OpenSpec.upto Rows.ftpCutsSpec).preRow enc Tryd.prog Tryd.f6 Rows.ftpCutsUptoRow.domain false Rows.ftpCutsUptoRow.laid) (((Rows.OpenSpec.upto Rows.ftpCutsSpec).at F).post enc Tryd.prog Tryd.f6 false true false false) := by
  obtain ⟨places, hx⟩ := reads6 os enc
  refine returnsInHanded_of_row (C := Tryd.checked) (s := (Rows.OpenSpec.upto Rows.ftpCutsSpec)) own started (by kernel_rfl) Tryd.func6
    (witness_row_at (enc := enc) (C := Tryd.checked) false (laidWorld os) w6 rfl (by kernel_rfl) (by kernel_rfl) (by kernel_rfl)
      (OpenSpec.preRow_of_cond 8 hx (by kernel_rfl) (fun k hk => by cases hk; kernel_rfl) (by kernel_rfl) (laid_met6 os))) ?_
  intro W base args ds gs before hval hW _ hc _ hL hS _
  exact contract6 H enc W base args ds gs before hval hW hL hS (hc _ rfl)
theorem said6 : Rows.FtpCutsUptoSaid :=
  OpenClaim.holds_of_cond 6 Tryd.f6 rfl rfl rfl rfl rfl rfl rfl ⟨rfl, rfl, rfl, rfl, rfl⟩ rfl rfl rfl rfl rfl (by kernel_rfl) Tryd.func6 (by kernel_rfl)
    (of_decide_eq_true (by kernel_rfl)) (by unfold Func.isWrapper; first | (rw [if_pos (by decide +kernel)]; kernel_rfl) | (rw [if_neg (by decide +kernel)]; exact ⟨rfl, rfl⟩))
    (fun os started H enc _ F => by rw [OpenClaim.pre_eq_preRow]; exact lifted6 os started H enc F)
theorem plain6 (f : FuncId) (fn : Func) (hf : Tryd.pinned.checked.prog.funcNamed "stockade/stockadelaw18.FtpCuts" = some f) (hfn : Tryd.pinned.checked.prog.funcs[f]? = some fn) :
    true = Tryd.pinned.checked.prog.looks [] ∧ ∀ (j : Nat) t, fn.params[j]? = some t → Tryd.pinned.checked.prog.wantsStandIn t = false := by
  obtain rfl : f = 6 := Option.some.inj ((show Tryd.prog.funcNamed "stockade/stockadelaw18.FtpCuts" = some 6 by kernel_rfl).symm.trans hf) |>.symm
  obtain rfl : fn = Tryd.f6 := (Option.some.inj (Tryd.func6.symm.trans hfn)).symm
  refine ⟨by kernel_rfl, fun j t ht => ?_⟩
  have h1 : Tryd.f6.params.all (fun t => !Tryd.prog.wantsStandIn t) = true := by kernel_rfl
  have h2 := Array.all_eq_true_iff_forall_mem.1 h1 t (Array.mem_of_getElem? ht)
  exact (show Tryd.prog.wantsStandIn t = false by simpa using h2)
end Go.Proofs.YtpkhlncohbakkaaDoor.Jv
namespace Go.Proofs.YtpkhlncohbakkaaDoor
open Go
/-- THE CARD. -/
theorem ftpCutsUpto_card : Rows.FtpCutsUptoCardSaid :=
  Claim7.holds_tied_plain_at .later [] _ _ _ _ Jv.said6 (fun _ h => by cases h) (by kernel_rfl) (fun _ h => by cases h) ftpCutsUpto_row_tie rfl ⟨rfl, rfl⟩ (by kernel_rfl) rfl Jv.plain6 (by kernel_rfl)
end Go.Proofs.YtpkhlncohbakkaaDoor
