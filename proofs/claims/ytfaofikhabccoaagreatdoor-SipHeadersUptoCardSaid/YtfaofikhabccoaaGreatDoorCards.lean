/-
  DERIVED. GIVEN WITH THE SEED: THE CARDS: each row of YtfaofikhabccoaaGreatDoorRows.lean that lists a variable, with what it lists TIED to the program's text (the seventh form; the later family's looks); each row that meets fmt, with fmt's text TOLD by the authors' own Lean function (tested against real Go, not proved from fmt's source: count such statements apart). THE CARD IS WHAT COUNTS. Prove the row's statement (the work); the ties are given (YtfaofikhabccoaaGreatDoorTie.lean); close each card by the builder's one call (the guide's Derived/Test/ToyasCard.lean, 'card_holds'). Laid BY PROGRAM, IN A SANDBOX (cutbox-door.mjs). By AI agents, Wed Nov 11 2026. No macro, syntax, notation, axiom, sorry.
-/
import Derived.Test.YtfaofikhabccoaaGreatDoorRows
import GoSem.ClaimSeven
namespace Go.Proofs.YtfaofikhabccoaaGreatDoor
namespace Rows

/-- THE TIED CARD OF 'stockadelaw20.SipBodies'. -/
def sipBodiesCard : Claim7 := { stood := { row := sipBodiesRow, standIns := [], harness := (true, "85b31efb076cb1bab959feca83cedfd965043f734abb79dceeefa29f04d5b242"), looks := true }, kinds := [], alts := [], laidByText := true, laidKinds := [.data, .data, .data, .data, .sentinel, .sentinel, .pinned], laidTests := true, laidLooks := .later }
def SipBodiesCardSaid : Prop := Claim7.holds Tryz.pinned (.plain (OpenSpec.ofChange sipBodiesSpec)) sipBodiesCard

/-- THE TIED CARD OF 'stockadelaw20.SipMedia'. -/
def sipMediaCard : Claim7 := { stood := { row := sipMediaRow, standIns := [], harness := (true, "85b31efb076cb1bab959feca83cedfd965043f734abb79dceeefa29f04d5b242"), looks := true }, kinds := [], alts := [], laidByText := true, laidKinds := [.data, .data, .data, .data, .sentinel, .sentinel, .pinned], laidTests := true, laidLooks := .later }
def SipMediaCardSaid : Prop := Claim7.holds Tryz.pinned (.plain (OpenSpec.ofChange sipMediaSpec)) sipMediaCard

/-- THE TIED CARD OF 'stockadelaw20.SipAsks'. -/
def sipAsksCard : Claim7 := { stood := { row := sipAsksRow, standIns := [], harness := (true, "85b31efb076cb1bab959feca83cedfd965043f734abb79dceeefa29f04d5b242"), looks := true }, kinds := [], alts := [], laidByText := true, laidKinds := [.data, .data, .data, .data, .sentinel, .sentinel, .pinned], laidTests := true, laidLooks := .later }
def SipAsksCardSaid : Prop := Claim7.holds Tryz.pinned (.plain (OpenSpec.ofChange sipAsksSpec)) sipAsksCard

/-- THE TIED CARD OF 'stockadelaw20.SipHeaders'. -/
def sipHeadersCard : Claim7 := { stood := { row := sipHeadersRow, standIns := [], harness := (true, "85b31efb076cb1bab959feca83cedfd965043f734abb79dceeefa29f04d5b242"), looks := true }, kinds := [], alts := [], laidByText := true, laidKinds := [.data, .data, .data, .data, .sentinel, .sentinel, .pinned], laidTests := true, laidLooks := .later }
def SipHeadersCardSaid : Prop := Claim7.holds Tryz.pinned (.plain (OpenSpec.ofChange sipHeadersSpec)) sipHeadersCard

/-- THE TIED CARD OF 'stockadelaw20.SipBehind'. -/
def sipBehindCard : Claim7 := { stood := { row := sipBehindRow, standIns := [], harness := (true, "85b31efb076cb1bab959feca83cedfd965043f734abb79dceeefa29f04d5b242"), looks := true }, kinds := [], alts := [], laidByText := true, laidKinds := [.data, .data, .data, .data, .sentinel, .sentinel, .pinned], laidTests := true, laidLooks := .later }
def SipBehindCardSaid : Prop := Claim7.holds Tryz.pinned (.plain (OpenSpec.ofChange sipBehindSpec)) sipBehindCard

/-- THE TIED CARD OF 'stockadelaw20.SipTogether'. -/
def sipTogetherCard : Claim7 := { stood := { row := sipTogetherRow, standIns := [], harness := (true, "85b31efb076cb1bab959feca83cedfd965043f734abb79dceeefa29f04d5b242"), looks := true }, kinds := [], alts := [], laidByText := true, laidKinds := [.data, .data, .data, .data, .sentinel, .sentinel, .pinned], laidTests := true, laidLooks := .later }
def SipTogetherCardSaid : Prop := Claim7.holds Tryz.pinned (.plain (OpenSpec.ofChange sipTogetherSpec)) sipTogetherCard

/-- THE TIED CARD OF 'stockadelaw20.SipOwn'. -/
def sipOwnCard : Claim7 := { stood := { row := sipOwnRow, standIns := [], harness := (true, "85b31efb076cb1bab959feca83cedfd965043f734abb79dceeefa29f04d5b242"), looks := true }, kinds := [], alts := [], laidByText := true, laidKinds := [.data, .data, .data, .data, .sentinel, .sentinel, .pinned], laidTests := true, laidLooks := .later }
def SipOwnCardSaid : Prop := Claim7.holds Tryz.pinned (.plain (OpenSpec.ofChange sipOwnSpec)) sipOwnCard

/-- THE SECOND FORM's CARD OF 'stockadelaw20.SipBodies'. -/
def sipBodiesUptoCard : Claim7 := { stood := { row := sipBodiesUptoRow, standIns := [], harness := (true, "85b31efb076cb1bab959feca83cedfd965043f734abb79dceeefa29f04d5b242"), looks := true }, kinds := [], alts := [], laidByText := true, laidKinds := [.data, .data, .data, .data, .sentinel, .sentinel, .pinned], laidTests := true, laidLooks := .later }
def SipBodiesUptoCardSaid : Prop := Claim7.holds Tryz.pinned (.plain (OpenSpec.upto sipBodiesSpec)) sipBodiesUptoCard

/-- THE SECOND FORM's CARD OF 'stockadelaw20.SipMedia'. -/
def sipMediaUptoCard : Claim7 := { stood := { row := sipMediaUptoRow, standIns := [], harness := (true, "85b31efb076cb1bab959feca83cedfd965043f734abb79dceeefa29f04d5b242"), looks := true }, kinds := [], alts := [], laidByText := true, laidKinds := [.data, .data, .data, .data, .sentinel, .sentinel, .pinned], laidTests := true, laidLooks := .later }
def SipMediaUptoCardSaid : Prop := Claim7.holds Tryz.pinned (.plain (OpenSpec.upto sipMediaSpec)) sipMediaUptoCard

/-- THE SECOND FORM's CARD OF 'stockadelaw20.SipAsks'. -/
def sipAsksUptoCard : Claim7 := { stood := { row := sipAsksUptoRow, standIns := [], harness := (true, "85b31efb076cb1bab959feca83cedfd965043f734abb79dceeefa29f04d5b242"), looks := true }, kinds := [], alts := [], laidByText := true, laidKinds := [.data, .data, .data, .data, .sentinel, .sentinel, .pinned], laidTests := true, laidLooks := .later }
def SipAsksUptoCardSaid : Prop := Claim7.holds Tryz.pinned (.plain (OpenSpec.upto sipAsksSpec)) sipAsksUptoCard

/-- THE SECOND FORM's CARD OF 'stockadelaw20.SipHeaders'. -/
def sipHeadersUptoCard : Claim7 := { stood := { row := sipHeadersUptoRow, standIns := [], harness := (true, "85b31efb076cb1bab959feca83cedfd965043f734abb79dceeefa29f04d5b242"), looks := true }, kinds := [], alts := [], laidByText := true, laidKinds := [.data, .data, .data, .data, .sentinel, .sentinel, .pinned], laidTests := true, laidLooks := .later }
def SipHeadersUptoCardSaid : Prop := Claim7.holds Tryz.pinned (.plain (OpenSpec.upto sipHeadersSpec)) sipHeadersUptoCard

/-- THE SECOND FORM's CARD OF 'stockadelaw20.SipBehind'. -/
def sipBehindUptoCard : Claim7 := { stood := { row := sipBehindUptoRow, standIns := [], harness := (true, "85b31efb076cb1bab959feca83cedfd965043f734abb79dceeefa29f04d5b242"), looks := true }, kinds := [], alts := [], laidByText := true, laidKinds := [.data, .data, .data, .data, .sentinel, .sentinel, .pinned], laidTests := true, laidLooks := .later }
def SipBehindUptoCardSaid : Prop := Claim7.holds Tryz.pinned (.plain (OpenSpec.upto sipBehindSpec)) sipBehindUptoCard

/-- THE SECOND FORM's CARD OF 'stockadelaw20.SipTogether'. -/
def sipTogetherUptoCard : Claim7 := { stood := { row := sipTogetherUptoRow, standIns := [], harness := (true, "85b31efb076cb1bab959feca83cedfd965043f734abb79dceeefa29f04d5b242"), looks := true }, kinds := [], alts := [], laidByText := true, laidKinds := [.data, .data, .data, .data, .sentinel, .sentinel, .pinned], laidTests := true, laidLooks := .later }
def SipTogetherUptoCardSaid : Prop := Claim7.holds Tryz.pinned (.plain (OpenSpec.upto sipTogetherSpec)) sipTogetherUptoCard

/-- THE SECOND FORM's CARD OF 'stockadelaw20.SipOwn'. -/
def sipOwnUptoCard : Claim7 := { stood := { row := sipOwnUptoRow, standIns := [], harness := (true, "85b31efb076cb1bab959feca83cedfd965043f734abb79dceeefa29f04d5b242"), looks := true }, kinds := [], alts := [], laidByText := true, laidKinds := [.data, .data, .data, .data, .sentinel, .sentinel, .pinned], laidTests := true, laidLooks := .later }
def SipOwnUptoCardSaid : Prop := Claim7.holds Tryz.pinned (.plain (OpenSpec.upto sipOwnSpec)) sipOwnUptoCard
end Rows
end Go.Proofs.YtfaofikhabccoaaGreatDoor
