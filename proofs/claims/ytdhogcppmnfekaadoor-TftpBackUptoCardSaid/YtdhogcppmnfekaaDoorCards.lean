/-
  DERIVED. GIVEN WITH THE SEED: THE CARDS: each row of YtdhogcppmnfekaaDoorRows.lean that lists a variable, with what it lists TIED to the program's text (the seventh form; the later family's looks); each row that meets fmt, with fmt's text TOLD by the authors' own Lean function (tested against real Go, not proved from fmt's source: count such statements apart). THE CARD IS WHAT COUNTS. Prove the row's statement (the work); the ties are given (YtdhogcppmnfekaaDoorTie.lean); close each card by the builder's one call (the guide's Derived/Test/ToyasCard.lean, 'card_holds'). Laid BY PROGRAM, IN A SANDBOX (cutbox-door.mjs). By AI agents, Wed Nov 11 2026. No macro, syntax, notation, axiom, sorry.
-/
import Derived.Test.YtdhogcppmnfekaaDoorRows
import GoSem.ClaimSeven
namespace Go.Proofs.YtdhogcppmnfekaaDoor
namespace Rows

/-- THE TIED CARD OF 'stockadelaw19.TftpReads'. -/
def tftpReadsCard : Claim7 := { stood := { row := tftpReadsRow, standIns := [], harness := (true, "7e459fde0c46e71c9d69a8387124f70673acc5003b2eccc2136c5dedd3706bc9"), looks := false }, kinds := [], alts := [], laidByText := true, laidKinds := [.data, .pinned], laidTests := true, laidLooks := .later }
def TftpReadsCardSaid : Prop := Claim7.holds Tryd.pinned (.plain (OpenSpec.ofChange tftpReadsSpec)) tftpReadsCard

/-- THE TIED CARD OF 'stockadelaw19.TftpWrites'. -/
def tftpWritesCard : Claim7 := { stood := { row := tftpWritesRow, standIns := [], harness := (true, "7e459fde0c46e71c9d69a8387124f70673acc5003b2eccc2136c5dedd3706bc9"), looks := false }, kinds := [], alts := [], laidByText := true, laidKinds := [.data, .pinned], laidTests := true, laidLooks := .later }
def TftpWritesCardSaid : Prop := Claim7.holds Tryd.pinned (.plain (OpenSpec.ofChange tftpWritesSpec)) tftpWritesCard

/-- THE TIED CARD OF 'stockadelaw19.TftpBack'. -/
def tftpBackCard : Claim7 := { stood := { row := tftpBackRow, standIns := [], harness := (true, "7e459fde0c46e71c9d69a8387124f70673acc5003b2eccc2136c5dedd3706bc9"), looks := false }, kinds := [], alts := [], laidByText := true, laidKinds := [.data, .pinned], laidTests := true, laidLooks := .later }
def TftpBackCardSaid : Prop := Claim7.holds Tryd.pinned (.plain (OpenSpec.ofChange tftpBackSpec)) tftpBackCard

/-- THE TIED CARD OF 'stockadelaw19.TftpHeads'. -/
def tftpHeadsCard : Claim7 := { stood := { row := tftpHeadsRow, standIns := [], harness := (true, "7e459fde0c46e71c9d69a8387124f70673acc5003b2eccc2136c5dedd3706bc9"), looks := false }, kinds := [], alts := [], laidByText := true, laidKinds := [.data, .pinned], laidTests := true, laidLooks := .later }
def TftpHeadsCardSaid : Prop := Claim7.holds Tryd.pinned (.plain (OpenSpec.ofChange tftpHeadsSpec)) tftpHeadsCard

/-- THE TIED CARD OF 'stockadelaw19.TftpOwn'. -/
def tftpOwnCard : Claim7 := { stood := { row := tftpOwnRow, standIns := [], harness := (true, "7e459fde0c46e71c9d69a8387124f70673acc5003b2eccc2136c5dedd3706bc9"), looks := false }, kinds := [], alts := [], laidByText := true, laidKinds := [.data, .pinned], laidTests := true, laidLooks := .later }
def TftpOwnCardSaid : Prop := Claim7.holds Tryd.pinned (.plain (OpenSpec.ofChange tftpOwnSpec)) tftpOwnCard

/-- THE TIED CARD OF 'stockadelaw19.TftpAsks'. -/
def tftpAsksCard : Claim7 := { stood := { row := tftpAsksRow, standIns := [], harness := (true, "7e459fde0c46e71c9d69a8387124f70673acc5003b2eccc2136c5dedd3706bc9"), looks := false }, kinds := [], alts := [], laidByText := true, laidKinds := [.data, .pinned], laidTests := true, laidLooks := .later }
def TftpAsksCardSaid : Prop := Claim7.holds Tryd.pinned (.plain (OpenSpec.ofChange tftpAsksSpec)) tftpAsksCard

/-- THE SECOND FORM's CARD OF 'stockadelaw19.TftpReads'. -/
def tftpReadsUptoCard : Claim7 := { stood := { row := tftpReadsUptoRow, standIns := [], harness := (true, "7e459fde0c46e71c9d69a8387124f70673acc5003b2eccc2136c5dedd3706bc9"), looks := false }, kinds := [], alts := [], laidByText := true, laidKinds := [.data, .pinned], laidTests := true, laidLooks := .later }
def TftpReadsUptoCardSaid : Prop := Claim7.holds Tryd.pinned (.plain (OpenSpec.upto tftpReadsSpec)) tftpReadsUptoCard

/-- THE SECOND FORM's CARD OF 'stockadelaw19.TftpWrites'. -/
def tftpWritesUptoCard : Claim7 := { stood := { row := tftpWritesUptoRow, standIns := [], harness := (true, "7e459fde0c46e71c9d69a8387124f70673acc5003b2eccc2136c5dedd3706bc9"), looks := false }, kinds := [], alts := [], laidByText := true, laidKinds := [.data, .pinned], laidTests := true, laidLooks := .later }
def TftpWritesUptoCardSaid : Prop := Claim7.holds Tryd.pinned (.plain (OpenSpec.upto tftpWritesSpec)) tftpWritesUptoCard

/-- THE SECOND FORM's CARD OF 'stockadelaw19.TftpBack'. -/
def tftpBackUptoCard : Claim7 := { stood := { row := tftpBackUptoRow, standIns := [], harness := (true, "7e459fde0c46e71c9d69a8387124f70673acc5003b2eccc2136c5dedd3706bc9"), looks := false }, kinds := [], alts := [], laidByText := true, laidKinds := [.data, .pinned], laidTests := true, laidLooks := .later }
def TftpBackUptoCardSaid : Prop := Claim7.holds Tryd.pinned (.plain (OpenSpec.upto tftpBackSpec)) tftpBackUptoCard

/-- THE SECOND FORM's CARD OF 'stockadelaw19.TftpHeads'. -/
def tftpHeadsUptoCard : Claim7 := { stood := { row := tftpHeadsUptoRow, standIns := [], harness := (true, "7e459fde0c46e71c9d69a8387124f70673acc5003b2eccc2136c5dedd3706bc9"), looks := false }, kinds := [], alts := [], laidByText := true, laidKinds := [.data, .pinned], laidTests := true, laidLooks := .later }
def TftpHeadsUptoCardSaid : Prop := Claim7.holds Tryd.pinned (.plain (OpenSpec.upto tftpHeadsSpec)) tftpHeadsUptoCard

/-- THE SECOND FORM's CARD OF 'stockadelaw19.TftpOwn'. -/
def tftpOwnUptoCard : Claim7 := { stood := { row := tftpOwnUptoRow, standIns := [], harness := (true, "7e459fde0c46e71c9d69a8387124f70673acc5003b2eccc2136c5dedd3706bc9"), looks := false }, kinds := [], alts := [], laidByText := true, laidKinds := [.data, .pinned], laidTests := true, laidLooks := .later }
def TftpOwnUptoCardSaid : Prop := Claim7.holds Tryd.pinned (.plain (OpenSpec.upto tftpOwnSpec)) tftpOwnUptoCard

/-- THE SECOND FORM's CARD OF 'stockadelaw19.TftpAsks'. -/
def tftpAsksUptoCard : Claim7 := { stood := { row := tftpAsksUptoRow, standIns := [], harness := (true, "7e459fde0c46e71c9d69a8387124f70673acc5003b2eccc2136c5dedd3706bc9"), looks := false }, kinds := [], alts := [], laidByText := true, laidKinds := [.data, .pinned], laidTests := true, laidLooks := .later }
def TftpAsksUptoCardSaid : Prop := Claim7.holds Tryd.pinned (.plain (OpenSpec.upto tftpAsksSpec)) tftpAsksUptoCard
end Rows
end Go.Proofs.YtdhogcppmnfekaaDoor
