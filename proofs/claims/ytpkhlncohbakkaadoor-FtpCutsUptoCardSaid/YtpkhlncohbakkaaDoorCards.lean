/-
  DERIVED. GIVEN WITH THE SEED: THE CARDS: each row of YtpkhlncohbakkaaDoorRows.lean that lists a variable, with what it lists TIED to the program's text (the seventh form; the later family's looks); each row that meets fmt, with fmt's text TOLD by the authors' own Lean function (tested against real Go, not proved from fmt's source: count such statements apart). THE CARD IS WHAT COUNTS. Prove the row's statement (the work); the ties are given (YtpkhlncohbakkaaDoorTie.lean); close each card by the builder's one call (the guide's Derived/Test/ToyasCard.lean, 'card_holds'). Laid BY PROGRAM, IN A SANDBOX (cutbox-door.mjs). By AI agents, Wed Nov 11 2026. No macro, syntax, notation, axiom, sorry.
-/
import Derived.Test.YtpkhlncohbakkaaDoorRows
import GoSem.ClaimSeven
namespace Go.Proofs.YtpkhlncohbakkaaDoor
namespace Rows

/-- THE TIED CARD OF 'stockadelaw18.FtpLines'. -/
def ftpLinesCard : Claim7 := { stood := { row := ftpLinesRow, standIns := [], harness := (true, "d08a1626ec2b7fce6c2583a3db3f250735329bc890ee0cf51164dbfaef18dc0d"), looks := true }, kinds := [], alts := [], laidByText := true, laidKinds := [.data, .data, .data, .data, .sentinel, .sentinel, .pinned], laidTests := true, laidLooks := .later }
def FtpLinesCardSaid : Prop := Claim7.holds Tryd.pinned (.plain (OpenSpec.ofChange ftpLinesSpec)) ftpLinesCard

/-- THE TIED CARD OF 'stockadelaw18.FtpSizes'. -/
def ftpSizesCard : Claim7 := { stood := { row := ftpSizesRow, standIns := [], harness := (true, "d08a1626ec2b7fce6c2583a3db3f250735329bc890ee0cf51164dbfaef18dc0d"), looks := true }, kinds := [], alts := [], laidByText := true, laidKinds := [.data, .data, .data, .data, .sentinel, .sentinel, .pinned], laidTests := true, laidLooks := .later }
def FtpSizesCardSaid : Prop := Claim7.holds Tryd.pinned (.plain (OpenSpec.ofChange ftpSizesSpec)) ftpSizesCard

/-- THE TIED CARD OF 'stockadelaw18.FtpSides'. -/
def ftpSidesCard : Claim7 := { stood := { row := ftpSidesRow, standIns := [], harness := (true, "d08a1626ec2b7fce6c2583a3db3f250735329bc890ee0cf51164dbfaef18dc0d"), looks := true }, kinds := [], alts := [], laidByText := true, laidKinds := [.data, .data, .data, .data, .sentinel, .sentinel, .pinned], laidTests := true, laidLooks := .later }
def FtpSidesCardSaid : Prop := Claim7.holds Tryd.pinned (.plain (OpenSpec.ofChange ftpSidesSpec)) ftpSidesCard

/-- THE TIED CARD OF 'stockadelaw18.FtpCuts'. -/
def ftpCutsCard : Claim7 := { stood := { row := ftpCutsRow, standIns := [], harness := (true, "d08a1626ec2b7fce6c2583a3db3f250735329bc890ee0cf51164dbfaef18dc0d"), looks := true }, kinds := [], alts := [], laidByText := true, laidKinds := [.data, .data, .data, .data, .sentinel, .sentinel, .pinned], laidTests := true, laidLooks := .later }
def FtpCutsCardSaid : Prop := Claim7.holds Tryd.pinned (.plain (OpenSpec.ofChange ftpCutsSpec)) ftpCutsCard

/-- THE SECOND FORM's CARD OF 'stockadelaw18.FtpLines'. -/
def ftpLinesUptoCard : Claim7 := { stood := { row := ftpLinesUptoRow, standIns := [], harness := (true, "d08a1626ec2b7fce6c2583a3db3f250735329bc890ee0cf51164dbfaef18dc0d"), looks := true }, kinds := [], alts := [], laidByText := true, laidKinds := [.data, .data, .data, .data, .sentinel, .sentinel, .pinned], laidTests := true, laidLooks := .later }
def FtpLinesUptoCardSaid : Prop := Claim7.holds Tryd.pinned (.plain (OpenSpec.upto ftpLinesSpec)) ftpLinesUptoCard

/-- THE SECOND FORM's CARD OF 'stockadelaw18.FtpSizes'. -/
def ftpSizesUptoCard : Claim7 := { stood := { row := ftpSizesUptoRow, standIns := [], harness := (true, "d08a1626ec2b7fce6c2583a3db3f250735329bc890ee0cf51164dbfaef18dc0d"), looks := true }, kinds := [], alts := [], laidByText := true, laidKinds := [.data, .data, .data, .data, .sentinel, .sentinel, .pinned], laidTests := true, laidLooks := .later }
def FtpSizesUptoCardSaid : Prop := Claim7.holds Tryd.pinned (.plain (OpenSpec.upto ftpSizesSpec)) ftpSizesUptoCard

/-- THE SECOND FORM's CARD OF 'stockadelaw18.FtpSides'. -/
def ftpSidesUptoCard : Claim7 := { stood := { row := ftpSidesUptoRow, standIns := [], harness := (true, "d08a1626ec2b7fce6c2583a3db3f250735329bc890ee0cf51164dbfaef18dc0d"), looks := true }, kinds := [], alts := [], laidByText := true, laidKinds := [.data, .data, .data, .data, .sentinel, .sentinel, .pinned], laidTests := true, laidLooks := .later }
def FtpSidesUptoCardSaid : Prop := Claim7.holds Tryd.pinned (.plain (OpenSpec.upto ftpSidesSpec)) ftpSidesUptoCard

/-- THE SECOND FORM's CARD OF 'stockadelaw18.FtpCuts'. -/
def ftpCutsUptoCard : Claim7 := { stood := { row := ftpCutsUptoRow, standIns := [], harness := (true, "d08a1626ec2b7fce6c2583a3db3f250735329bc890ee0cf51164dbfaef18dc0d"), looks := true }, kinds := [], alts := [], laidByText := true, laidKinds := [.data, .data, .data, .data, .sentinel, .sentinel, .pinned], laidTests := true, laidLooks := .later }
def FtpCutsUptoCardSaid : Prop := Claim7.holds Tryd.pinned (.plain (OpenSpec.upto ftpCutsSpec)) ftpCutsUptoCard
end Rows
end Go.Proofs.YtpkhlncohbakkaaDoor
