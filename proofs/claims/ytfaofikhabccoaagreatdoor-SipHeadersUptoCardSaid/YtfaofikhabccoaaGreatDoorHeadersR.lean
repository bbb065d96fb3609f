/- SipHeaders: the row and the card; conditions: none. -/
import Derived.Test.YtfaofikhabccoaaGreatDoorHeadersL
import Derived.Test.YtfaofikhabccoaaGreatDoorRowJ
namespace Go.Proofs.YtfaofikhabccoaaGreatDoor.Jv
open Go Go.RowKit Go.ChangeShapes Go.WideShapes Go.ChangeAt
set_option linter.unusedVariables false
theorem htrue6 (xs : List PV) (h : ArgsTy E0.P upQ Tryz.f6.params.toList xs) : ∃ k, (mach E0 k).call 6 boolS xs = some true := by
  rw [show Tryz.f6.params.toList = [22, 9] by kernel_rfl] at h
  obtain ⟨q0, y0, r0, g0, k0, ⟨q1, y1, r1, g1, k1, rfl, rfl⟩, rfl⟩ := h
  rw [show tyT E0.P 8 22 = some (.sl .u8) by kernel_rfl] at g0; cases g0
  rw [show tyT E0.P 8 9 = some .str by kernel_rfl] at g1; cases g1
  obtain ⟨k, hk⟩ := c_law20_SipHeaders y0 y1 true (sipHeaders_ok y0 y1 k0 k1)
  refine ⟨k, ?_⟩
  rw [show argP E0.P 22 (cellsT (.sl .u8) y0) = .sl .u8 y0 by kernel_rfl, show argP E0.P 9 (cellsT .str y1) = .v (.string ⟨⟨y1⟩⟩) by kernel_rfl]
  exact hk k (Nat.le_refl _)
def w6 : Array Value := #[.slice none 0 0, .string ⟨#[]⟩]
theorem laid_met6 (os : Os) : laidMet Tryz.prog Rows.sipHeadersUptoRow.laid ((laidWorld os).forCall (fun _ _ => 0) ⟨#[], w6, []⟩).memory :=
  laidMet_of_run' 8 (by kernel_rfl) (by kernel_rfl)
theorem reads6 (os : Os) {H : Type} (enc : TypeId × Value → H) : ∃ places, DataW.whole enc Tryz.prog ((laidWorld os).forCall (fun _ _ => 0) ⟨#[], w6, []⟩).memory Tryz.f6.params.toList Rows.sipHeadersSpec.vars false w6.toList 8 = some ([.nil, .lit (.string [])], [], places) :=
  ⟨[], by kernel_rfl⟩
set_option maxRecDepth 100000 in
theorem contract6 (H : Type) (enc : TypeId × Value → H) (W : World) (base : Nat) (args : Array Value) (ds gs : List (DataW H)) (before : List MemPlace)
    (hval : ∀ (j : Nat) t v, Tryz.f6.params[j]? = some t → args[j]? = some v → Value.okWide Tryz.prog W .any base t v)
    (hW : DataW.Whole enc Tryz.prog Tryz.f6.params.toList Rows.sipHeadersSpec.vars false W args.toList ds gs before) (hL : laidMetH Tryz.prog Rows.sipHeadersUptoRow.laid W) (hS : W.ShapedOpen Tryz.prog) (hk : Rows.uptoSmall H (ds ++ gs) = true) :
    Calls Tryz.prog 6 args W fun e W' => ∃ v, e = .returned v ∧ Rows.sipHeadersSpec.post enc Tryz.prog Tryz.f6 false true false false W args v W' :=
  law_contract (E := E0) (T := tabOf W [0, 1, 2]) mixed0 (intr_of hL hS) ok0 (by kernel_rfl) laidOut (by kernel_rfl) rfl Tryz.underlying4 htrue6 rfl
    (fun ds hd => by
      match ds, hd with
      | [d0, d1], _ => rfl) hval hW (tabOf_good W _) (upto_Q hk)
set_option maxRecDepth 100000 in
theorem lifted6 (os : Os) (started : os.Started) (H : Type) (enc : TypeId × Value → H) (F : Stop.Interp) :
    ReturnsInHanded {} Tryz.checked os 6 .any ((Rows.OpenSpec.upto Rows.sipHeadersSpec).preRow enc Tryz.prog Tryz.f6 Rows.sipHeadersUptoRow.domain false Rows.sipHeadersUptoRow.laid) (((Rows.OpenSpec.upto Rows.sipHeadersSpec).at F).post enc Tryz.prog Tryz.f6 false true false false) := by
  obtain ⟨places, hx⟩ := reads6 os enc
  refine returnsInHanded_of_row (C := Tryz.checked) (s := (Rows.OpenSpec.upto Rows.sipHeadersSpec)) own started (by kernel_rfl) Tryz.func6
    (witness_row_at (enc := enc) (C := Tryz.checked) false (laidWorld os) w6 rfl (by kernel_rfl) (by kernel_rfl) (by kernel_rfl)
      (OpenSpec.preRow_of_cond 8 hx (by kernel_rfl) (fun k hk => by cases hk; kernel_rfl) (by kernel_rfl) (laid_met6 os))) ?_
  intro W base args ds gs before hval hW _ hc _ hL hS _
  exact contract6 H enc W base args ds gs before hval hW hL hS (hc _ rfl)
theorem said6 : Rows.SipHeadersUptoSaid :=
  OpenClaim.holds_of_cond 6 Tryz.f6 rfl rfl rfl rfl rfl rfl rfl ⟨rfl, rfl, rfl, rfl, rfl⟩ rfl rfl rfl rfl rfl (by kernel_rfl) Tryz.func6 (by kernel_rfl)
    (of_decide_eq_true (by kernel_rfl)) (by unfold Func.isWrapper; first | (rw [if_pos (by decide +kernel)]; kernel_rfl) | (rw [if_neg (by decide +kernel)]; exact ⟨rfl, rfl⟩))
    (fun os started H enc _ F => by rw [OpenClaim.pre_eq_preRow]; exact lifted6 os started H enc F)
theorem plain6 (f : FuncId) (fn : Func) (hf : Tryz.pinned.checked.prog.funcNamed "stockade/stockadelaw20.SipHeaders" = some f) (hfn : Tryz.pinned.checked.prog.funcs[f]? = some fn) :
    true = Tryz.pinned.checked.prog.looks [] ∧ ∀ (j : Nat) t, fn.params[j]? = some t → Tryz.pinned.checked.prog.wantsStandIn t = false := by
  obtain rfl : f = 6 := Option.some.inj ((show Tryz.prog.funcNamed "stockade/stockadelaw20.SipHeaders" = some 6 by kernel_rfl).symm.trans hf) |>.symm
  obtain rfl : fn = Tryz.f6 := (Option.some.inj (Tryz.func6.symm.trans hfn)).symm
  refine ⟨by kernel_rfl, fun j t ht => ?_⟩
  have h1 : Tryz.f6.params.all (fun t => !Tryz.prog.wantsStandIn t) = true := by kernel_rfl
  have h2 := Array.all_eq_true_iff_forall_mem.1 h1 t (Array.mem_of_getElem? ht)
  exact (show Tryz.prog.wantsStandIn t = false by simpa using h2)
end Go.Proofs.YtfaofikhabccoaaGreatDoor.Jv
namespace Go.Proofs.YtfaofikhabccoaaGreatDoor
open Go
/-- THE CARD. -/
theorem sipHeadersUpto_card : Rows.SipHeadersUptoCardSaid :=
  Claim7.holds_tied_plain_at .later [] _ _ _ _ Jv.said6 (fun _ h => by cases h) (by kernel_rfl) (fun _ h => by cases h) sipHeadersUpto_row_tie rfl ⟨rfl, rfl⟩ (by kernel_rfl) rfl Jv.plain6 (by kernel_rfl)
end Go.Proofs.YtfaofikhabccoaaGreatDoor
