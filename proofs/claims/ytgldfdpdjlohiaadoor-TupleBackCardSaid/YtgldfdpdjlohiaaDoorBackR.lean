/- TupleBack: the row and the card; conditions: none. -/
import Derived.Test.YtgldfdpdjlohiaaDoorBackL
import Derived.Test.YtgldfdpdjlohiaaDoorCards
import Derived.Test.YtgldfdpdjlohiaaDoorTie
import Derived.Lib.LaidTab
import Derived.Stop.LaidErr
namespace Go.Proofs.YtgldfdpdjlohiaaDoor.Iv
open Go Go.RowKit Go.ChangeShapes Go.WideShapes Go.ChangeAt
theorem own : ownKnob Tryd.prog.godebug = none := by kernel_rfl
theorem laidOut : laidOutB Tryd.prog = true := by kernel_rfl
theorem open26 {ps : List PV} (h : IsTy Tryd.prog 8 26 ps) : ∃ a b sf sh sl df dh dl p q, ps = [.v (.int .i64 a), .v (.int .i64 b), .v (.int .i64 sf), .v (.int .u64 sh), .v (.int .u64 sl), .v (.int .i64 df), .v (.int .u64 dh), .v (.int .u64 dl), .v (.int .i64 p), .v (.int .i64 q)] := by
  simp only [IsTy, Tryd.underlying26, isF, Tryd.underlying3, Tryd.underlying24, Tryd.underlying22] at h
  obtain ⟨_, _, ⟨a, _, _, rfl⟩, ⟨_, _, ⟨b, _, _, rfl⟩, ⟨_, _, ⟨_, _, ⟨sf, _, _, rfl⟩, ⟨_, _, ⟨sh, _, _, rfl⟩, ⟨_, _, ⟨sl, _, _, rfl⟩, rfl, rfl⟩, rfl⟩, rfl⟩, ⟨_, _, ⟨_, _, ⟨df, _, _, rfl⟩, ⟨_, _, ⟨dh, _, _, rfl⟩, ⟨_, _, ⟨dl, _, _, rfl⟩, rfl, rfl⟩, rfl⟩, rfl⟩, ⟨_, _, ⟨p, _, _, rfl⟩, ⟨_, _, ⟨q, _, _, rfl⟩, rfl, rfl⟩, rfl⟩, rfl⟩, rfl⟩, rfl⟩, rfl⟩ := h
  exact ⟨a, b, sf, sh, sl, df, dh, dl, p, q, rfl⟩
theorem htrue3 (xs : List PV) (h : ArgsTy E0.P Tryd.f3.params.toList xs) : ∃ k, callP E0 k 3 xs = some (.v (.bool true)) := by
  rw [Tryd.params3] at h
  obtain ⟨ps, r, h1, h2, rfl⟩ := h
  obtain ⟨a, b, sf, sh, sl, df, dh, dl, p, q, rfl⟩ := open26 h1
  have h3 : r = [] := h2
  subst h3
  refine ⟨61, ?_⟩
  have : argP E0.P 26 [.v (.int .i64 a), .v (.int .i64 b), .v (.int .i64 sf), .v (.int .u64 sh), .v (.int .u64 sl), .v (.int .i64 df), .v (.int .u64 dh), .v (.int .u64 dl), .v (.int .i64 p), .v (.int .i64 q)] = .v (.agg ⟨[.int .i64 a, .int .i64 b, .int .i64 sf, .int .u64 sh, .int .u64 sl, .int .i64 df, .int .u64 dh, .int .u64 dl, .int .i64 p, .int .i64 q]⟩) := by kernel_rfl
  rw [this]
  exact law3 a b sf sh sl df dh dl p q
/-! ### The tables -/
theorem t89 : (Tryd.prog.globals[3]?).map (·.type) = some 89 := by kernel_rfl
theorem t83 : (Tryd.prog.globals[0]?).map (·.type) = some 83 := by kernel_rfl
theorem c89 : Tryd.prog.cellsOf 89 = 64 := by kernel_rfl
theorem c83 : Tryd.prog.cellsOf 83 = 20 := by kernel_rfl
theorem c5 : Tryd.prog.cellsOf 5 = 1 := by kernel_rfl
theorem c22 : Tryd.prog.cellsOf 22 = 1 := by kernel_rfl
def laid0 : List (String × DataW Unit) := [("math/bits.deBruijn32tab", Rows.laid_math_bits_deBruijn32tab), ("math/bits.deBruijn64tab", Rows.laid_math_bits_deBruijn64tab), ("internal/strconv.uint64pow10", Rows.laid_internal_strconv_uint64pow10)]
theorem tab64 {W : World} (h : laidMetH Tryd.prog laid0 W) : Lib.TabIs Tryd.prog W "math/bits.deBruijn64tab" .u8 db64 :=
  Lib.tabIs_of_head (rest := [("internal/strconv.uint64pow10", Rows.laid_internal_strconv_uint64pow10)]) g64 t89 Tryd.underlying89 Tryd.underlying5 c5 c89 (laidMet.tail (show laidMet Tryd.prog laid0 W from h))
theorem tab10 {W : World} (h : laidMetH Tryd.prog laid0 W) : Lib.TabIs Tryd.prog W "internal/strconv.uint64pow10" .u64 Lib.pow10Tab :=
  Lib.tabIs_of_head (rest := []) g10 t83 Tryd.underlying83 Tryd.underlying22 c22 c83 (laidMet.tail (laidMet.tail (show laidMet Tryd.prog laid0 W from h)))
/-- What the row gives every run of the machine. -/
theorem intr_of {W : World} (h : laidMetH Tryd.prog laid0 W) : IntrOK E0 (tabOf W [3, 0]) :=
  intr0_ok (tabOf_ok (tab64 h) g64 (by simp)) (tabOf_ok (tab10 h) g10 (by simp))
/-- A world for the witness. -/
noncomputable def laidWorld (os : Os) : World :=
  { World.holding Tryd.prog os ⟨#[], #[], []⟩ with heap := ((((World.holding Tryd.prog os ⟨#[], #[], []⟩).heap.modify 3 fun
      | .cells _ t frozen => .cells (db64.map fun z => Value.int .u8 z).toArray t frozen
      | o => o).modify 0 fun
      | .cells _ t frozen => .cells (Lib.pow10Tab.map fun z => Value.int .u64 z).toArray t frozen
      | o => o).modify 2 fun
      | .cells _ t frozen => .cells ([0, 1, 28, 2, 29, 14, 24, 3, 30, 22, 20, 15, 25, 17, 4, 8, 31, 27, 13, 23, 21, 19, 16, 7, 26, 12, 18, 6, 11, 5, 10, 9].map fun z => Value.int .u8 z).toArray t frozen
      | o => o) }
/-! ### TupleBack -/
def w3 : Array Value := #[.agg #[.int .i64 0, .int .i64 0, .int .i64 0, .int .u64 0, .int .u64 0, .int .i64 0, .int .u64 0, .int .u64 0, .int .i64 0, .int .i64 0]]
theorem laid_met3 (os : Os) : laidMet Tryd.prog Rows.tupleBackRow.laid ((laidWorld os).forCall (fun _ _ => 0) ⟨#[], w3, []⟩).memory :=
  laidMet_of_run' 8 (by kernel_rfl) (by kernel_rfl)
theorem reads3 (os : Os) {H : Type} (enc : TypeId × Value → H) : ∃ ds places, DataW.whole enc Tryd.prog ((laidWorld os).forCall (fun _ _ => 0) ⟨#[], w3, []⟩).memory Tryd.f3.params.toList Rows.tupleBackSpec.vars false w3.toList 8 = some (ds, [], places) :=
  ⟨[.agg [.lit (.int .i64 0), .lit (.int .i64 0), .agg [.lit (.int .i64 0), .lit (.int .u64 0), .lit (.int .u64 0)], .agg [.lit (.int .i64 0), .lit (.int .u64 0), .lit (.int .u64 0)], .lit (.int .i64 0), .lit (.int .i64 0)]], [], by kernel_rfl⟩
theorem contract3 (H : Type) (enc : TypeId × Value → H) (W : World) (base : Nat) (args : Array Value) (ds gs : List (DataW H)) (before : List MemPlace)
    (hval : ∀ (j : Nat) t v, Tryd.f3.params[j]? = some t → args[j]? = some v → Value.okWide Tryd.prog W .any base t v)
    (hW : DataW.Whole enc Tryd.prog Tryd.f3.params.toList Rows.tupleBackSpec.vars false W args.toList ds gs before) (hL : laidMetH Tryd.prog Rows.tupleBackRow.laid W) :
    Calls Tryd.prog 3 args W fun e W' => ∃ v, e = .returned v ∧ Rows.tupleBackSpec.post enc Tryd.prog Tryd.f3 false true false false W args v W' :=
  law_contract (E := E0) (T := tabOf W [3, 0]) mixed0 (intr_of hL) ok0 (by kernel_rfl) laidOut (by kernel_rfl) rfl Tryd.underlying4 htrue3 rfl
    (fun ds hd => by
      match ds, hd with
      | [d], _ => rfl) hval hW (tabOf_good W _)
set_option maxRecDepth 100000 in
theorem lifted3 (os : Os) (started : os.Started) (H : Type) (enc : TypeId × Value → H) (F : Stop.Interp) :
    ReturnsInHanded {} Tryd.checked os 3 .any ((OpenSpec.ofChange Rows.tupleBackSpec).preRow enc Tryd.prog Tryd.f3 Rows.tupleBackRow.domain false Rows.tupleBackRow.laid) (((OpenSpec.ofChange Rows.tupleBackSpec).at F).post enc Tryd.prog Tryd.f3 false true false false) := by
  obtain ⟨ds, places, hx⟩ := reads3 os enc
  refine returnsInHanded_of_row (C := Tryd.checked) (s := OpenSpec.ofChange Rows.tupleBackSpec) own started (by kernel_rfl) Tryd.func3
    (witness_row_at (enc := enc) (C := Tryd.checked) false (laidWorld os) w3 rfl (by kernel_rfl) (by kernel_rfl) (by kernel_rfl)
      (OpenSpec.preRow_of_cond 8 hx (by kernel_rfl) (fun k hk => by cases hk) (by kernel_rfl) (laid_met3 os))) ?_
  intro W base args ds gs before hval hW _ _ _ hL _ _
  exact contract3 H enc W base args ds gs before hval hW hL
theorem said3 : Rows.TupleBackSaid :=
  OpenClaim.holds_of_cond 3 Tryd.f3 rfl rfl rfl rfl rfl rfl rfl ⟨rfl, rfl, rfl, rfl, rfl⟩ rfl rfl rfl rfl rfl (by kernel_rfl) Tryd.func3 (by kernel_rfl)
    (of_decide_eq_true (by kernel_rfl)) (by unfold Func.isWrapper; first | (rw [if_pos (by decide +kernel)]; kernel_rfl) | (rw [if_neg (by decide +kernel)]; exact ⟨rfl, rfl⟩))
    (fun os started H enc _ F => by rw [OpenClaim.pre_eq_preRow]; exact lifted3 os started H enc F)
theorem plain3 (f : FuncId) (fn : Func) (hf : Tryd.pinned.checked.prog.funcNamed "stockade/stockadelaw14.TupleBack" = some f) (hfn : Tryd.pinned.checked.prog.funcs[f]? = some fn) :
    false = Tryd.pinned.checked.prog.looks [] ∧ ∀ (j : Nat) t, fn.params[j]? = some t → Tryd.pinned.checked.prog.wantsStandIn t = false := by
  obtain rfl : f = 3 := Option.some.inj ((show Tryd.prog.funcNamed "stockade/stockadelaw14.TupleBack" = some 3 by kernel_rfl).symm.trans hf) |>.symm
  obtain rfl : fn = Tryd.f3 := (Option.some.inj (Tryd.func3.symm.trans hfn)).symm
  refine ⟨by kernel_rfl, fun j t ht => ?_⟩
  have h1 : Tryd.f3.params.all (fun t => !Tryd.prog.wantsStandIn t) = true := by kernel_rfl
  have h2 := Array.all_eq_true_iff_forall_mem.1 h1 t (Array.mem_of_getElem? ht)
  exact (show Tryd.prog.wantsStandIn t = false by simpa using h2)
end Go.Proofs.YtgldfdpdjlohiaaDoor.Iv
namespace Go.Proofs.YtgldfdpdjlohiaaDoor
open Go
/-- THE CARD. -/
theorem tupleBack_card : Rows.TupleBackCardSaid :=
  Claim7.holds_tied_plain_at .later [] _ _ _ _ Iv.said3 (fun _ h => by cases h) (by kernel_rfl) (fun _ h => by cases h) tupleBack_row_tie rfl ⟨rfl, rfl⟩ (by kernel_rfl) rfl Iv.plain3 (by kernel_rfl)
end Go.Proofs.YtgldfdpdjlohiaaDoor
