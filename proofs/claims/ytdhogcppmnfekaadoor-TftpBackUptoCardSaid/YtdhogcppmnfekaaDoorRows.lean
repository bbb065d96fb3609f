/-
  NARROWER THAN 'FOR EVERY INPUT', by the rows' own cells (each row's printed sentence says how): TftpReads: laid · TftpWrites: laid · TftpBack: laid · TftpHeads: laid · TftpOwn: laid · TftpAsks: laid.
  DERIVED. THE GIVEN ROWS OF THIS SEAT. 6 by the template 'for every input the law returns true; each argument reads behind the call as it read before'; 0 by the template 'total and deterministic' (their statements: YtdhogcppmnfekaaDoorTotals.lean).
  GIVEN WITH THE SEED: the statements are not yours to turn. If you find one false, say at which input.
  Laid BY PROGRAM, IN A SANDBOX (cutbox-rows.mjs): the forced cells as the released guide's own fill.sh prints them over the translation de4e588ae57c5226… (all of the seat's roots in one cut). By AI agents, Wed Nov 11 2026. No macro, syntax, notation, axiom, sorry.
-/
import Derived.Test.YtdhogcppmnfekaaDoorChecked
import GoSem.PinnedTables
import GoSem.Claim
import GoSem.ClaimJoined
import GoSem.ClaimMapViews
import Derived.JoinedTies
import Derived.KernelRfl
namespace Go.Proofs.YtdhogcppmnfekaaDoor
/- THE CELL 'sum', in the pinned program and in every row, IS THE sha256 OF THE DUMP (.gsa) THAT YtdhogcppmnfekaaDoorProg.lean LOADS. Nothing in Lean hashes anything: it is a label: what it is worth is what the hold of that sum in a sandbox is worth. -/
noncomputable def Tryd.pinned : Pinned := { name := "ytdhogcppmnfekaadoor", sum := "de4e588ae57c5226fbb8f4ea70c2ebcb5715c3eb7e7d5a373a7b883f68d77ead", checked := Tryd.checked }
namespace Rows
def none {H : Type} : Left H := { results := [], args := [] }

/- WHAT THE LISTED PACKAGE-LEVEL VARIABLES READ AS WHEN THE CALL BEGINS. Each datum BY PROGRAM (the guide's laid-datum.mjs) off the statement by which the dump's own 'gosem.cut.vars' lays the variable. In a bare row this is a premise. The card (YtdhogcppmnfekaaDoorCards.lean) ties it to the program's text. -/
def laid_unicode_utf8_acceptRanges {H : Type} : DataW H := .agg [.agg [.lit (.int .u8 128), .lit (.int .u8 191)], .agg [.lit (.int .u8 160), .lit (.int .u8 191)], .agg [.lit (.int .u8 128), .lit (.int .u8 159)], .agg [.lit (.int .u8 144), .lit (.int .u8 191)], .agg [.lit (.int .u8 128), .lit (.int .u8 143)], .agg [.lit (.int .u8 0), .lit (.int .u8 0)], .agg [.lit (.int .u8 0), .lit (.int .u8 0)], .agg [.lit (.int .u8 0), .lit (.int .u8 0)], .agg [.lit (.int .u8 0), .lit (.int .u8 0)], .agg [.lit (.int .u8 0), .lit (.int .u8 0)], .agg [.lit (.int .u8 0), .lit (.int .u8 0)], .agg [.lit (.int .u8 0), .lit (.int .u8 0)], .agg [.lit (.int .u8 0), .lit (.int .u8 0)], .agg [.lit (.int .u8 0), .lit (.int .u8 0)], .agg [.lit (.int .u8 0), .lit (.int .u8 0)], .agg [.lit (.int .u8 0), .lit (.int .u8 0)]]
/-- One of Go's own tables, pinned by name: the form's constant. -/
def laid_unicode_utf8_first : DataW Unit := Go.Pinned.utf8First

/-- 'stockadelaw19.TftpReads': WHATEVER THE INPUT: true; the input reads as it did. -/
def tftpReadsSpec : ChangeSpec := { name := "tftpReads", fn := fun _ => fun
  | [d] => { results := [.lit (.bool true)], args := [d] }
  | _ => none }
def tftpReadsRow : OpenClaim := { program := "ytdhogcppmnfekaadoor", sum := "de4e588ae57c5226fbb8f4ea70c2ebcb5715c3eb7e7d5a373a7b883f68d77ead", func := "stockade/stockadelaw19.TftpReads", spec := "tftpReads", inPlace := ["internal/bytealg.IndexByte", "internal/bytealg.Index", "internal/abi.NoEscape", "internal/bytealg.MakeNoZero"], unfollowed := true, recurses := true, named := ["internal/bytealg.MaxLen", "unicode/utf8.first", "unicode/utf8.acceptRanges"], apart := false, laid := [("unicode/utf8.acceptRanges", laid_unicode_utf8_acceptRanges), ("unicode/utf8.first", laid_unicode_utf8_first)] }
def TftpReadsSaid : Prop := tftpReadsRow.holds Tryd.pinned (OpenSpec.ofChange tftpReadsSpec)

/-- ITS FALSE NEIGHBOUR: 'it returns false'. Refute it at one input. -/
def tftpReadsWrong : ChangeSpec := { name := "tftpReads", fn := fun _ => fun
  | [d] => { results := [.lit (.bool false)], args := [d] }
  | _ => none }
def TftpReadsWrongFalsely : Prop := tftpReadsRow.holds Tryd.pinned (OpenSpec.ofChange tftpReadsWrong)

/-- 'stockadelaw19.TftpWrites': WHATEVER THE INPUT: true; the input reads as it did. -/
def tftpWritesSpec : ChangeSpec := { name := "tftpWrites", fn := fun _ => fun
  | [d] => { results := [.lit (.bool true)], args := [d] }
  | _ => none }
def tftpWritesRow : OpenClaim := { program := "ytdhogcppmnfekaadoor", sum := "de4e588ae57c5226fbb8f4ea70c2ebcb5715c3eb7e7d5a373a7b883f68d77ead", func := "stockade/stockadelaw19.TftpWrites", spec := "tftpWrites", inPlace := ["internal/bytealg.IndexByte", "internal/bytealg.Index", "internal/abi.NoEscape", "internal/bytealg.MakeNoZero"], unfollowed := true, recurses := true, named := ["internal/bytealg.MaxLen", "unicode/utf8.first", "unicode/utf8.acceptRanges"], apart := false, laid := [("unicode/utf8.acceptRanges", laid_unicode_utf8_acceptRanges), ("unicode/utf8.first", laid_unicode_utf8_first)] }
def TftpWritesSaid : Prop := tftpWritesRow.holds Tryd.pinned (OpenSpec.ofChange tftpWritesSpec)

/-- ITS FALSE NEIGHBOUR: 'it returns false'. Refute it at one input. -/
def tftpWritesWrong : ChangeSpec := { name := "tftpWrites", fn := fun _ => fun
  | [d] => { results := [.lit (.bool false)], args := [d] }
  | _ => none }
def TftpWritesWrongFalsely : Prop := tftpWritesRow.holds Tryd.pinned (OpenSpec.ofChange tftpWritesWrong)

/-- 'stockadelaw19.TftpBack': WHATEVER THE INPUT: true; the input reads as it did. -/
def tftpBackSpec : ChangeSpec := { name := "tftpBack", fn := fun _ => fun
  | [d1, d2] => { results := [.lit (.bool true)], args := [d1, d2] }
  | _ => none }
def tftpBackRow : OpenClaim := { program := "ytdhogcppmnfekaadoor", sum := "de4e588ae57c5226fbb8f4ea70c2ebcb5715c3eb7e7d5a373a7b883f68d77ead", func := "stockade/stockadelaw19.TftpBack", spec := "tftpBack", inPlace := ["internal/bytealg.IndexByte", "internal/bytealg.Index", "internal/abi.NoEscape", "internal/bytealg.MakeNoZero"], unfollowed := true, recurses := true, named := ["internal/bytealg.MaxLen", "unicode/utf8.first", "unicode/utf8.acceptRanges"], apart := false, laid := [("unicode/utf8.acceptRanges", laid_unicode_utf8_acceptRanges), ("unicode/utf8.first", laid_unicode_utf8_first)] }
def TftpBackSaid : Prop := tftpBackRow.holds Tryd.pinned (OpenSpec.ofChange tftpBackSpec)

/-- ITS FALSE NEIGHBOUR: 'it returns false'. Refute it at one input. -/
def tftpBackWrong : ChangeSpec := { name := "tftpBack", fn := fun _ => fun
  | [d1, d2] => { results := [.lit (.bool false)], args := [d1, d2] }
  | _ => none }
def TftpBackWrongFalsely : Prop := tftpBackRow.holds Tryd.pinned (OpenSpec.ofChange tftpBackWrong)

/-- 'stockadelaw19.TftpHeads': WHATEVER THE INPUT: true; the input reads as it did. -/
def tftpHeadsSpec : ChangeSpec := { name := "tftpHeads", fn := fun _ => fun
  | [d1, d2] => { results := [.lit (.bool true)], args := [d1, d2] }
  | _ => none }
def tftpHeadsRow : OpenClaim := { program := "ytdhogcppmnfekaadoor", sum := "de4e588ae57c5226fbb8f4ea70c2ebcb5715c3eb7e7d5a373a7b883f68d77ead", func := "stockade/stockadelaw19.TftpHeads", spec := "tftpHeads", inPlace := ["internal/bytealg.IndexByte", "internal/bytealg.Index", "internal/abi.NoEscape", "internal/bytealg.MakeNoZero"], unfollowed := true, recurses := true, named := ["internal/bytealg.MaxLen", "unicode/utf8.first", "unicode/utf8.acceptRanges"], apart := false, laid := [("unicode/utf8.acceptRanges", laid_unicode_utf8_acceptRanges), ("unicode/utf8.first", laid_unicode_utf8_first)] }
def TftpHeadsSaid : Prop := tftpHeadsRow.holds Tryd.pinned (OpenSpec.ofChange tftpHeadsSpec)

/-- ITS FALSE NEIGHBOUR: 'it returns false'. Refute it at one input. -/
def tftpHeadsWrong : ChangeSpec := { name := "tftpHeads", fn := fun _ => fun
  | [d1, d2] => { results := [.lit (.bool false)], args := [d1, d2] }
  | _ => none }
def TftpHeadsWrongFalsely : Prop := tftpHeadsRow.holds Tryd.pinned (OpenSpec.ofChange tftpHeadsWrong)

/-- 'stockadelaw19.TftpOwn': WHATEVER THE INPUT: true; the input reads as it did. -/
def tftpOwnSpec : ChangeSpec := { name := "tftpOwn", fn := fun _ => fun
  | [d] => { results := [.lit (.bool true)], args := [d] }
  | _ => none }
def tftpOwnRow : OpenClaim := { program := "ytdhogcppmnfekaadoor", sum := "de4e588ae57c5226fbb8f4ea70c2ebcb5715c3eb7e7d5a373a7b883f68d77ead", func := "stockade/stockadelaw19.TftpOwn", spec := "tftpOwn", inPlace := ["internal/bytealg.IndexByte", "internal/bytealg.Index", "internal/abi.NoEscape", "internal/bytealg.MakeNoZero"], unfollowed := true, recurses := true, named := ["internal/bytealg.MaxLen", "unicode/utf8.first", "unicode/utf8.acceptRanges"], apart := false, laid := [("unicode/utf8.acceptRanges", laid_unicode_utf8_acceptRanges), ("unicode/utf8.first", laid_unicode_utf8_first)] }
def TftpOwnSaid : Prop := tftpOwnRow.holds Tryd.pinned (OpenSpec.ofChange tftpOwnSpec)

/-- ITS FALSE NEIGHBOUR: 'it returns false'. Refute it at one input. -/
def tftpOwnWrong : ChangeSpec := { name := "tftpOwn", fn := fun _ => fun
  | [d] => { results := [.lit (.bool false)], args := [d] }
  | _ => none }
def TftpOwnWrongFalsely : Prop := tftpOwnRow.holds Tryd.pinned (OpenSpec.ofChange tftpOwnWrong)

/-- 'stockadelaw19.TftpAsks': WHATEVER THE INPUT: true; the input reads as it did. -/
def tftpAsksSpec : ChangeSpec := { name := "tftpAsks", fn := fun _ => fun
  | [d1, d2] => { results := [.lit (.bool true)], args := [d1, d2] }
  | _ => none }
def tftpAsksRow : OpenClaim := { program := "ytdhogcppmnfekaadoor", sum := "de4e588ae57c5226fbb8f4ea70c2ebcb5715c3eb7e7d5a373a7b883f68d77ead", func := "stockade/stockadelaw19.TftpAsks", spec := "tftpAsks", inPlace := ["internal/bytealg.IndexByte", "internal/bytealg.Index", "internal/abi.NoEscape", "internal/bytealg.MakeNoZero"], unfollowed := true, recurses := true, named := ["internal/bytealg.MaxLen", "unicode/utf8.first", "unicode/utf8.acceptRanges"], apart := false, laid := [("unicode/utf8.acceptRanges", laid_unicode_utf8_acceptRanges), ("unicode/utf8.first", laid_unicode_utf8_first)] }
def TftpAsksSaid : Prop := tftpAsksRow.holds Tryd.pinned (OpenSpec.ofChange tftpAsksSpec)

/-- ITS FALSE NEIGHBOUR: 'it returns false'. Refute it at one input. -/
def tftpAsksWrong : ChangeSpec := { name := "tftpAsks", fn := fun _ => fun
  | [d1, d2] => { results := [.lit (.bool false)], args := [d1, d2] }
  | _ => none }
def TftpAsksWrongFalsely : Prop := tftpAsksRow.holds Tryd.pinned (OpenSpec.ofChange tftpAsksWrong)

/- THE SECOND FORM. 'bulk': how many values and letters a reading holds, each counted each time it is reached (what is shared counts as often as it is met; a slice's spare places count too). A statement '..UptoSaid' is the law's where the arguments, and the package variables that the reading takes, are together of bulk at most 1048576: NARROWER than '..Said'. Prove '..Said' where nothing that the law and all that it calls make is longer than what came in: it says more and counts as full. Else prove '..UptoSaid'. A law counts once. -/
mutual
def uptoBulk {H : Type} : DataW H → Nat
  | .lit (.string bytes) => bytes.length + 1
  | .lit _ => 1
  | .nil => 1
  | .ptr d => uptoBulk d + 1
  | .slice elems spare => uptoBulkAll elems + uptoBulkAll spare + 1
  | .agg parts => uptoBulkAll parts + 1
  | .iface _ d => uptoBulk d + 1
  | .map entries => uptoBulkEntries entries + 1
  | .held _ => 1
def uptoBulkAll {H : Type} : List (DataW H) → Nat
  | [] => 0
  | d :: r => uptoBulk d + uptoBulkAll r
def uptoBulkEntries {H : Type} : List (Lit × DataW H) → Nat
  | [] => 0
  | x :: r => uptoBulkEntry x + uptoBulkEntries r
def uptoBulkEntry {H : Type} : Lit × DataW H → Nat
  | (.string bytes, d) => bytes.length + uptoBulk d + 1
  | (_, d) => uptoBulk d + 1
 end
def uptoSmall : (H : Type) → List (DataW H) → Bool := fun _ ds => decide (uptoBulkAll ds ≤ 1048576)
def OpenSpec.upto (s : _root_.Go.ChangeSpec) : _root_.Go.OpenSpec := { _root_.Go.OpenSpec.ofChange s with cond := some uptoSmall }

/-- 'stockadelaw19.TftpReads', WHERE WHAT IT READS IS OF BULK AT MOST 1048576: true; the input reads as it did. -/
def tftpReadsUptoRow : OpenClaim := { program := "ytdhogcppmnfekaadoor", sum := "de4e588ae57c5226fbb8f4ea70c2ebcb5715c3eb7e7d5a373a7b883f68d77ead", func := "stockade/stockadelaw19.TftpReads", spec := "tftpReads", inPlace := ["internal/bytealg.IndexByte", "internal/bytealg.Index", "internal/abi.NoEscape", "internal/bytealg.MakeNoZero"], unfollowed := true, recurses := true, named := ["internal/bytealg.MaxLen", "unicode/utf8.first", "unicode/utf8.acceptRanges"], apart := false, laid := [("unicode/utf8.acceptRanges", laid_unicode_utf8_acceptRanges), ("unicode/utf8.first", laid_unicode_utf8_first)], narrowed := true }
def TftpReadsUptoSaid : Prop := tftpReadsUptoRow.holds Tryd.pinned (OpenSpec.upto tftpReadsSpec)

/-- 'stockadelaw19.TftpWrites', WHERE WHAT IT READS IS OF BULK AT MOST 1048576: true; the input reads as it did. -/
def tftpWritesUptoRow : OpenClaim := { program := "ytdhogcppmnfekaadoor", sum := "de4e588ae57c5226fbb8f4ea70c2ebcb5715c3eb7e7d5a373a7b883f68d77ead", func := "stockade/stockadelaw19.TftpWrites", spec := "tftpWrites", inPlace := ["internal/bytealg.IndexByte", "internal/bytealg.Index", "internal/abi.NoEscape", "internal/bytealg.MakeNoZero"], unfollowed := true, recurses := true, named := ["internal/bytealg.MaxLen", "unicode/utf8.first", "unicode/utf8.acceptRanges"], apart := false, laid := [("unicode/utf8.acceptRanges", laid_unicode_utf8_acceptRanges), ("unicode/utf8.first", laid_unicode_utf8_first)], narrowed := true }
def TftpWritesUptoSaid : Prop := tftpWritesUptoRow.holds Tryd.pinned (OpenSpec.upto tftpWritesSpec)

/-- 'stockadelaw19.TftpBack', WHERE WHAT IT READS IS OF BULK AT MOST 1048576: true; the input reads as it did. -/
def tftpBackUptoRow : OpenClaim := { program := "ytdhogcppmnfekaadoor", sum := "de4e588ae57c5226fbb8f4ea70c2ebcb5715c3eb7e7d5a373a7b883f68d77ead", func := "stockade/stockadelaw19.TftpBack", spec := "tftpBack", inPlace := ["internal/bytealg.IndexByte", "internal/bytealg.Index", "internal/abi.NoEscape", "internal/bytealg.MakeNoZero"], unfollowed := true, recurses := true, named := ["internal/bytealg.MaxLen", "unicode/utf8.first", "unicode/utf8.acceptRanges"], apart := false, laid := [("unicode/utf8.acceptRanges", laid_unicode_utf8_acceptRanges), ("unicode/utf8.first", laid_unicode_utf8_first)], narrowed := true }
def TftpBackUptoSaid : Prop := tftpBackUptoRow.holds Tryd.pinned (OpenSpec.upto tftpBackSpec)

/-- 'stockadelaw19.TftpHeads', WHERE WHAT IT READS IS OF BULK AT MOST 1048576: true; the input reads as it did. -/
def tftpHeadsUptoRow : OpenClaim := { program := "ytdhogcppmnfekaadoor", sum := "de4e588ae57c5226fbb8f4ea70c2ebcb5715c3eb7e7d5a373a7b883f68d77ead", func := "stockade/stockadelaw19.TftpHeads", spec := "tftpHeads", inPlace := ["internal/bytealg.IndexByte", "internal/bytealg.Index", "internal/abi.NoEscape", "internal/bytealg.MakeNoZero"], unfollowed := true, recurses := true, named := ["internal/bytealg.MaxLen", "unicode/utf8.first", "unicode/utf8.acceptRanges"], apart := false, laid := [("unicode/utf8.acceptRanges", laid_unicode_utf8_acceptRanges), ("unicode/utf8.first", laid_unicode_utf8_first)], narrowed := true }
def TftpHeadsUptoSaid : Prop := tftpHeadsUptoRow.holds Tryd.pinned (OpenSpec.upto tftpHeadsSpec)

/-- 'stockadelaw19.TftpOwn', WHERE WHAT IT READS IS OF BULK AT MOST 1048576: true; the input reads as it did. -/
def tftpOwnUptoRow : OpenClaim := { program := "ytdhogcppmnfekaadoor", sum := "de4e588ae57c5226fbb8f4ea70c2ebcb5715c3eb7e7d5a373a7b883f68d77ead", func := "stockade/stockadelaw19.TftpOwn", spec := "tftpOwn", inPlace := ["internal/bytealg.IndexByte", "internal/bytealg.Index", "internal/abi.NoEscape", "internal/bytealg.MakeNoZero"], unfollowed := true, recurses := true, named := ["internal/bytealg.MaxLen", "unicode/utf8.first", "unicode/utf8.acceptRanges"], apart := false, laid := [("unicode/utf8.acceptRanges", laid_unicode_utf8_acceptRanges), ("unicode/utf8.first", laid_unicode_utf8_first)], narrowed := true }
def TftpOwnUptoSaid : Prop := tftpOwnUptoRow.holds Tryd.pinned (OpenSpec.upto tftpOwnSpec)

/-- 'stockadelaw19.TftpAsks', WHERE WHAT IT READS IS OF BULK AT MOST 1048576: true; the input reads as it did. -/
def tftpAsksUptoRow : OpenClaim := { program := "ytdhogcppmnfekaadoor", sum := "de4e588ae57c5226fbb8f4ea70c2ebcb5715c3eb7e7d5a373a7b883f68d77ead", func := "stockade/stockadelaw19.TftpAsks", spec := "tftpAsks", inPlace := ["internal/bytealg.IndexByte", "internal/bytealg.Index", "internal/abi.NoEscape", "internal/bytealg.MakeNoZero"], unfollowed := true, recurses := true, named := ["internal/bytealg.MaxLen", "unicode/utf8.first", "unicode/utf8.acceptRanges"], apart := false, laid := [("unicode/utf8.acceptRanges", laid_unicode_utf8_acceptRanges), ("unicode/utf8.first", laid_unicode_utf8_first)], narrowed := true }
def TftpAsksUptoSaid : Prop := tftpAsksUptoRow.holds Tryd.pinned (OpenSpec.upto tftpAsksSpec)

end Rows
end Go.Proofs.YtdhogcppmnfekaaDoor
