/-
  DERIVED. GIVEN WITH THE SEED: THE CARDS: each row of YtgldfdpdjlohiaaDoorRows.lean that lists a variable, with what it lists TIED to the program's text (the seventh form; the later family's looks); each row that meets fmt, with fmt's text TOLD by the authors' own Lean function (tested against real Go, not proved from fmt's source: count such statements apart). THE CARD IS WHAT COUNTS. Prove the row's statement (the work); the ties are given (YtgldfdpdjlohiaaDoorTie.lean); close each card by the builder's one call (the guide's Derived/Test/ToyasCard.lean, 'card_holds'). Laid BY PROGRAM, IN A SANDBOX (cutbox-door.mjs). By AI agents, Wed Nov 11 2026. No macro, syntax, notation, axiom, sorry.
-/
import Derived.Test.YtgldfdpdjlohiaaDoorRows
import GoSem.ClaimSeven
namespace Go.Proofs.YtgldfdpdjlohiaaDoor
namespace Rows

/-- THE TIED CARD OF 'stockadelaw14.TupleBack'. -/
def tupleBackCard : Claim7 := { stood := { row := tupleBackRow, standIns := [], harness := (true, "a0af6f76af759678c6b444539c2d9c2897e4a7764ea093a6e89dcf8a9fe0605b"), looks := false }, kinds := [], alts := [], laidByText := true, laidKinds := [.data, .data, .data], laidTests := true, laidLooks := .later }
def TupleBackCardSaid : Prop := Claim7.holds Tryd.pinned (.plain (OpenSpec.ofChange tupleBackSpec)) tupleBackCard

/-- THE TIED CARD OF 'stockadelaw14.TupleUnlike'. -/
def tupleUnlikeCard : Claim7 := { stood := { row := tupleUnlikeRow, standIns := [], harness := (true, "a0af6f76af759678c6b444539c2d9c2897e4a7764ea093a6e89dcf8a9fe0605b"), looks := false }, kinds := [], alts := [], laidByText := true, laidKinds := [.data, .data, .data], laidTests := true, laidLooks := .later }
def TupleUnlikeCardSaid : Prop := Claim7.holds Tryd.pinned (.plain (OpenSpec.ofChange tupleUnlikeSpec)) tupleUnlikeCard

/-- THE TIED CARD OF 'stockadelaw14.TupleTexts'. -/
def tupleTextsCard : Claim7 := { stood := { row := tupleTextsRow, standIns := [], harness := (true, "a0af6f76af759678c6b444539c2d9c2897e4a7764ea093a6e89dcf8a9fe0605b"), looks := false }, kinds := [], alts := [], laidByText := true, laidKinds := [.data, .data, .data], laidTests := true, laidLooks := .later }
def TupleTextsCardSaid : Prop := Claim7.holds Tryd.pinned (.plain (OpenSpec.ofChange tupleTextsSpec)) tupleTextsCard

/-- THE TIED CARD OF 'stockadelaw14.TupleKinds'. -/
def tupleKindsCard : Claim7 := { stood := { row := tupleKindsRow, standIns := [], harness := (true, "a0af6f76af759678c6b444539c2d9c2897e4a7764ea093a6e89dcf8a9fe0605b"), looks := false }, kinds := [], alts := [], laidByText := true, laidKinds := [.data, .data, .data], laidTests := true, laidLooks := .later }
def TupleKindsCardSaid : Prop := Claim7.holds Tryd.pinned (.plain (OpenSpec.ofChange tupleKindsSpec)) tupleKindsCard

/-- THE TIED CARD OF 'stockadelaw14.TupleRights'. -/
def tupleRightsCard : Claim7 := { stood := { row := tupleRightsRow, standIns := [], harness := (true, "a0af6f76af759678c6b444539c2d9c2897e4a7764ea093a6e89dcf8a9fe0605b"), looks := false }, kinds := [], alts := [], laidByText := true, laidKinds := [.data, .data, .data], laidTests := true, laidLooks := .later }
def TupleRightsCardSaid : Prop := Claim7.holds Tryd.pinned (.plain (OpenSpec.ofChange tupleRightsSpec)) tupleRightsCard

/-- THE TIED CARD OF 'stockadelaw14.TupleOrders'. -/
def tupleOrdersCard : Claim7 := { stood := { row := tupleOrdersRow, standIns := [], harness := (true, "a0af6f76af759678c6b444539c2d9c2897e4a7764ea093a6e89dcf8a9fe0605b"), looks := false }, kinds := [], alts := [], laidByText := true, laidKinds := [.data, .data, .data], laidTests := true, laidLooks := .later }
def TupleOrdersCardSaid : Prop := Claim7.holds Tryd.pinned (.plain (OpenSpec.ofChange tupleOrdersSpec)) tupleOrdersCard

/-- THE SECOND FORM's CARD OF 'stockadelaw14.TupleBack'. -/
def tupleBackUptoCard : Claim7 := { stood := { row := tupleBackUptoRow, standIns := [], harness := (true, "a0af6f76af759678c6b444539c2d9c2897e4a7764ea093a6e89dcf8a9fe0605b"), looks := false }, kinds := [], alts := [], laidByText := true, laidKinds := [.data, .data, .data], laidTests := true, laidLooks := .later }
def TupleBackUptoCardSaid : Prop := Claim7.holds Tryd.pinned (.plain (OpenSpec.upto tupleBackSpec)) tupleBackUptoCard

/-- THE SECOND FORM's CARD OF 'stockadelaw14.TupleUnlike'. -/
def tupleUnlikeUptoCard : Claim7 := { stood := { row := tupleUnlikeUptoRow, standIns := [], harness := (true, "a0af6f76af759678c6b444539c2d9c2897e4a7764ea093a6e89dcf8a9fe0605b"), looks := false }, kinds := [], alts := [], laidByText := true, laidKinds := [.data, .data, .data], laidTests := true, laidLooks := .later }
def TupleUnlikeUptoCardSaid : Prop := Claim7.holds Tryd.pinned (.plain (OpenSpec.upto tupleUnlikeSpec)) tupleUnlikeUptoCard

/-- THE SECOND FORM's CARD OF 'stockadelaw14.TupleTexts'. -/
def tupleTextsUptoCard : Claim7 := { stood := { row := tupleTextsUptoRow, standIns := [], harness := (true, "a0af6f76af759678c6b444539c2d9c2897e4a7764ea093a6e89dcf8a9fe0605b"), looks := false }, kinds := [], alts := [], laidByText := true, laidKinds := [.data, .data, .data], laidTests := true, laidLooks := .later }
def TupleTextsUptoCardSaid : Prop := Claim7.holds Tryd.pinned (.plain (OpenSpec.upto tupleTextsSpec)) tupleTextsUptoCard

/-- THE SECOND FORM's CARD OF 'stockadelaw14.TupleKinds'. -/
def tupleKindsUptoCard : Claim7 := { stood := { row := tupleKindsUptoRow, standIns := [], harness := (true, "a0af6f76af759678c6b444539c2d9c2897e4a7764ea093a6e89dcf8a9fe0605b"), looks := false }, kinds := [], alts := [], laidByText := true, laidKinds := [.data, .data, .data], laidTests := true, laidLooks := .later }
def TupleKindsUptoCardSaid : Prop := Claim7.holds Tryd.pinned (.plain (OpenSpec.upto tupleKindsSpec)) tupleKindsUptoCard

/-- THE SECOND FORM's CARD OF 'stockadelaw14.TupleRights'. -/
def tupleRightsUptoCard : Claim7 := { stood := { row := tupleRightsUptoRow, standIns := [], harness := (true, "a0af6f76af759678c6b444539c2d9c2897e4a7764ea093a6e89dcf8a9fe0605b"), looks := false }, kinds := [], alts := [], laidByText := true, laidKinds := [.data, .data, .data], laidTests := true, laidLooks := .later }
def TupleRightsUptoCardSaid : Prop := Claim7.holds Tryd.pinned (.plain (OpenSpec.upto tupleRightsSpec)) tupleRightsUptoCard

/-- THE SECOND FORM's CARD OF 'stockadelaw14.TupleOrders'. -/
def tupleOrdersUptoCard : Claim7 := { stood := { row := tupleOrdersUptoRow, standIns := [], harness := (true, "a0af6f76af759678c6b444539c2d9c2897e4a7764ea093a6e89dcf8a9fe0605b"), looks := false }, kinds := [], alts := [], laidByText := true, laidKinds := [.data, .data, .data], laidTests := true, laidLooks := .later }
def TupleOrdersUptoCardSaid : Prop := Claim7.holds Tryd.pinned (.plain (OpenSpec.upto tupleOrdersSpec)) tupleOrdersUptoCard
end Rows
end Go.Proofs.YtgldfdpdjlohiaaDoor
