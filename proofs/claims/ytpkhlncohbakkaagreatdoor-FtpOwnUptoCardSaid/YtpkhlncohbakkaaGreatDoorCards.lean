/-
  DERIVED. GIVEN WITH THE SEED: THE CARDS: each row of YtpkhlncohbakkaaGreatDoorRows.lean that lists a variable, with what it lists TIED to the program's text (the seventh form; the later family's looks); each row that meets fmt, with fmt's text TOLD by the authors' own Lean function (tested against real Go, not proved from fmt's source: count such statements apart). THE CARD IS WHAT COUNTS. Prove the row's statement (the work); the ties are given (YtpkhlncohbakkaaGreatDoorTie.lean); close each card by the builder's one call (the guide's Derived/Test/ToyasCard.lean, 'card_holds'). Laid BY PROGRAM, IN A SANDBOX (cutbox-door.mjs). By AI agents, Wed Nov 11 2026. No macro, syntax, notation, axiom, sorry.
-/
import Derived.Test.YtpkhlncohbakkaaGreatDoorRows
import GoSem.ClaimSeven
namespace Go.Proofs.YtpkhlncohbakkaaGreatDoor
namespace Rows

/-- THE TIED CARD OF 'stockadelaw18.FtpPlaces'. -/
def ftpPlacesCard : Claim7 := { stood := { row := ftpPlacesRow, standIns := [], harness := (true, "afd3d79414e073895a4267fe2f944691470adce2128292eea4b92c12844416a6"), looks := true }, kinds := [], alts := [], laidByText := true, laidKinds := [.data, .data, .data, .data, .sentinel, .sentinel, .pinned], laidTests := true, laidLooks := .later }
def FtpPlacesCardSaid : Prop := Claim7.holds Tryz.pinned (.plain (OpenSpec.ofChange ftpPlacesSpec)) ftpPlacesCard

/-- THE TIED CARD OF 'stockadelaw18.FtpAsks'. -/
def ftpAsksCard : Claim7 := { stood := { row := ftpAsksRow, standIns := [], harness := (true, "afd3d79414e073895a4267fe2f944691470adce2128292eea4b92c12844416a6"), looks := true }, kinds := [], alts := [], laidByText := true, laidKinds := [.data, .data, .data, .data, .sentinel, .sentinel, .pinned], laidTests := true, laidLooks := .later }
def FtpAsksCardSaid : Prop := Claim7.holds Tryz.pinned (.plain (OpenSpec.ofChange ftpAsksSpec)) ftpAsksCard

/-- THE TIED CARD OF 'stockadelaw18.FtpOwn'. -/
def ftpOwnCard : Claim7 := { stood := { row := ftpOwnRow, standIns := [], harness := (true, "afd3d79414e073895a4267fe2f944691470adce2128292eea4b92c12844416a6"), looks := true }, kinds := [], alts := [], laidByText := true, laidKinds := [.data, .data, .data, .data, .sentinel, .sentinel, .pinned], laidTests := true, laidLooks := .later }
def FtpOwnCardSaid : Prop := Claim7.holds Tryz.pinned (.plain (OpenSpec.ofChange ftpOwnSpec)) ftpOwnCard

/-- THE SECOND FORM's CARD OF 'stockadelaw18.FtpPlaces'. -/
def ftpPlacesUptoCard : Claim7 := { stood := { row := ftpPlacesUptoRow, standIns := [], harness := (true, "afd3d79414e073895a4267fe2f944691470adce2128292eea4b92c12844416a6"), looks := true }, kinds := [], alts := [], laidByText := true, laidKinds := [.data, .data, .data, .data, .sentinel, .sentinel, .pinned], laidTests := true, laidLooks := .later }
def FtpPlacesUptoCardSaid : Prop := Claim7.holds Tryz.pinned (.plain (OpenSpec.upto ftpPlacesSpec)) ftpPlacesUptoCard

/-- THE SECOND FORM's CARD OF 'stockadelaw18.FtpAsks'. -/
def ftpAsksUptoCard : Claim7 := { stood := { row := ftpAsksUptoRow, standIns := [], harness := (true, "afd3d79414e073895a4267fe2f944691470adce2128292eea4b92c12844416a6"), looks := true }, kinds := [], alts := [], laidByText := true, laidKinds := [.data, .data, .data, .data, .sentinel, .sentinel, .pinned], laidTests := true, laidLooks := .later }
def FtpAsksUptoCardSaid : Prop := Claim7.holds Tryz.pinned (.plain (OpenSpec.upto ftpAsksSpec)) ftpAsksUptoCard

/-- THE SECOND FORM's CARD OF 'stockadelaw18.FtpOwn'. -/
def ftpOwnUptoCard : Claim7 := { stood := { row := ftpOwnUptoRow, standIns := [], harness := (true, "afd3d79414e073895a4267fe2f944691470adce2128292eea4b92c12844416a6"), looks := true }, kinds := [], alts := [], laidByText := true, laidKinds := [.data, .data, .data, .data, .sentinel, .sentinel, .pinned], laidTests := true, laidLooks := .later }
def FtpOwnUptoCardSaid : Prop := Claim7.holds Tryz.pinned (.plain (OpenSpec.upto ftpOwnSpec)) ftpOwnUptoCard
end Rows
end Go.Proofs.YtpkhlncohbakkaaGreatDoor
