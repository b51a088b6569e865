/-
  NARROWER THAN 'FOR EVERY INPUT', by the rows' own cells (each row's printed sentence says how): ArchivePacks: laid · ArchiveOpens: laid · ArchiveLengths: laid · ArchiveEscapes: laid · ArchiveTwice: laid · TreeOrder: laid · TreeAppends: laid · TreeRemoves: laid · TreeFull: laid · TreeClones: laid · TreeMoves: laid · TreeOf: laid · TreePlays: laid.
  DERIVED. THE GIVEN ROWS OF THIS SEAT. 13 by the template 'for every input the law returns true; each argument reads behind the call as it read before'; 0 by the template 'total and deterministic' (their statements: YtmdpmpdlkaogdaaGreatDoorTotals.lean).
  GIVEN WITH THE SEED: the statements are not yours to turn. If you find one false, say at which input.
  Laid BY PROGRAM, IN A SANDBOX (cutbox-rows.mjs): the forced cells as the released guide's own fill.sh prints them over the translation aad7d827b26426f0… (all of the seat's roots in one cut). By AI agents, Wed Nov 11 2026. No macro, syntax, notation, axiom, sorry.
-/
import Derived.Test.YtmdpmpdlkaogdaaGreatDoorChecked
import GoSem.PinnedTables
import GoSem.Claim
import GoSem.ClaimJoined
import GoSem.ClaimMapViews
import Derived.JoinedTies
import Derived.KernelRfl
namespace Go.Proofs.YtmdpmpdlkaogdaaGreatDoor
/- THE CELL 'sum', in the pinned program and in every row, IS THE sha256 OF THE DUMP (.gsa) THAT YtmdpmpdlkaogdaaGreatDoorProg.lean LOADS. Nothing in Lean hashes anything: it is a label: what it is worth is what the hold of that sum in a sandbox is worth. -/
noncomputable def Tryz.pinned : Pinned := { name := "ytmdpmpdlkaogdaagreatdoor", sum := "aad7d827b26426f03a87b5462233d5741091ced6e29a941d1962135e9698ba66", checked := Tryz.checked }
namespace Rows
def none {H : Type} : Left H := { results := [], args := [] }

/- WHAT THE LISTED PACKAGE-LEVEL VARIABLES READ AS WHEN THE CALL BEGINS. Each datum BY PROGRAM (the guide's laid-datum.mjs) off the statement by which the dump's own 'gosem.cut.vars' lays the variable. In a bare row this is a premise. The card (YtmdpmpdlkaogdaaGreatDoorCards.lean) ties it to the program's text. -/
def laid_unicode_utf8_acceptRanges {H : Type} : DataW H := .agg [.agg [.lit (.int .u8 128), .lit (.int .u8 191)], .agg [.lit (.int .u8 160), .lit (.int .u8 191)], .agg [.lit (.int .u8 128), .lit (.int .u8 159)], .agg [.lit (.int .u8 144), .lit (.int .u8 191)], .agg [.lit (.int .u8 128), .lit (.int .u8 143)], .agg [.lit (.int .u8 0), .lit (.int .u8 0)], .agg [.lit (.int .u8 0), .lit (.int .u8 0)], .agg [.lit (.int .u8 0), .lit (.int .u8 0)], .agg [.lit (.int .u8 0), .lit (.int .u8 0)], .agg [.lit (.int .u8 0), .lit (.int .u8 0)], .agg [.lit (.int .u8 0), .lit (.int .u8 0)], .agg [.lit (.int .u8 0), .lit (.int .u8 0)], .agg [.lit (.int .u8 0), .lit (.int .u8 0)], .agg [.lit (.int .u8 0), .lit (.int .u8 0)], .agg [.lit (.int .u8 0), .lit (.int .u8 0)], .agg [.lit (.int .u8 0), .lit (.int .u8 0)]]
/-- One of Go's own tables, pinned by name: the form's constant. -/
def laid_unicode_utf8_first : DataW Unit := Go.Pinned.utf8First

/-- 'haversacklaw13.ArchivePacks': WHATEVER THE INPUT: true; the input reads as it did. -/
def archivePacksSpec : ChangeSpec := { name := "archivePacks", fn := fun _ => fun
  | [d] => { results := [.lit (.bool true)], args := [d] }
  | _ => none }
def archivePacksRow : OpenClaim := { program := "ytmdpmpdlkaogdaagreatdoor", sum := "aad7d827b26426f03a87b5462233d5741091ced6e29a941d1962135e9698ba66", func := "haversack/haversacklaw13.ArchivePacks", spec := "archivePacks", inPlace := ["internal/bytealg.CountString", "internal/bytealg.IndexByteString", "internal/bytealg.IndexString", "internal/abi.NoEscape", "internal/bytealg.MakeNoZero"], unfollowed := true, recurses := true, named := ["unicode/utf8.first", "unicode/utf8.acceptRanges", "internal/bytealg.MaxLen"], apart := false, laid := [("unicode/utf8.acceptRanges", laid_unicode_utf8_acceptRanges), ("unicode/utf8.first", laid_unicode_utf8_first)] }
def ArchivePacksSaid : Prop := archivePacksRow.holds Tryz.pinned (OpenSpec.ofChange archivePacksSpec)

/-- ITS FALSE NEIGHBOUR: 'it returns false'. Refute it at one input. -/
def archivePacksWrong : ChangeSpec := { name := "archivePacks", fn := fun _ => fun
  | [d] => { results := [.lit (.bool false)], args := [d] }
  | _ => none }
def ArchivePacksWrongFalsely : Prop := archivePacksRow.holds Tryz.pinned (OpenSpec.ofChange archivePacksWrong)

/-- 'haversacklaw13.ArchiveOpens': WHATEVER THE INPUT: true; the input reads as it did. -/
def archiveOpensSpec : ChangeSpec := { name := "archiveOpens", fn := fun _ => fun
  | [d1, d2, d3, d4, d5, d6] => { results := [.lit (.bool true)], args := [d1, d2, d3, d4, d5, d6] }
  | _ => none }
def archiveOpensRow : OpenClaim := { program := "ytmdpmpdlkaogdaagreatdoor", sum := "aad7d827b26426f03a87b5462233d5741091ced6e29a941d1962135e9698ba66", func := "haversack/haversacklaw13.ArchiveOpens", spec := "archiveOpens", inPlace := ["internal/bytealg.CountString", "internal/bytealg.IndexByteString", "internal/bytealg.IndexString", "internal/abi.NoEscape", "internal/bytealg.MakeNoZero"], unfollowed := true, recurses := true, named := ["unicode/utf8.first", "unicode/utf8.acceptRanges", "internal/bytealg.MaxLen"], apart := false, laid := [("unicode/utf8.acceptRanges", laid_unicode_utf8_acceptRanges), ("unicode/utf8.first", laid_unicode_utf8_first)] }
def ArchiveOpensSaid : Prop := archiveOpensRow.holds Tryz.pinned (OpenSpec.ofChange archiveOpensSpec)

/-- ITS FALSE NEIGHBOUR: 'it returns false'. Refute it at one input. -/
def archiveOpensWrong : ChangeSpec := { name := "archiveOpens", fn := fun _ => fun
  | [d1, d2, d3, d4, d5, d6] => { results := [.lit (.bool false)], args := [d1, d2, d3, d4, d5, d6] }
  | _ => none }
def ArchiveOpensWrongFalsely : Prop := archiveOpensRow.holds Tryz.pinned (OpenSpec.ofChange archiveOpensWrong)

/-- 'haversacklaw13.ArchiveLengths': WHATEVER THE INPUT: true; the input reads as it did. -/
def archiveLengthsSpec : ChangeSpec := { name := "archiveLengths", fn := fun _ => fun
  | [d1, d2, d3, d4] => { results := [.lit (.bool true)], args := [d1, d2, d3, d4] }
  | _ => none }
def archiveLengthsRow : OpenClaim := { program := "ytmdpmpdlkaogdaagreatdoor", sum := "aad7d827b26426f03a87b5462233d5741091ced6e29a941d1962135e9698ba66", func := "haversack/haversacklaw13.ArchiveLengths", spec := "archiveLengths", inPlace := ["internal/bytealg.CountString", "internal/bytealg.IndexByteString", "internal/bytealg.IndexString", "internal/abi.NoEscape", "internal/bytealg.MakeNoZero"], unfollowed := true, recurses := true, named := ["unicode/utf8.first", "unicode/utf8.acceptRanges", "internal/bytealg.MaxLen"], apart := false, laid := [("unicode/utf8.acceptRanges", laid_unicode_utf8_acceptRanges), ("unicode/utf8.first", laid_unicode_utf8_first)] }
def ArchiveLengthsSaid : Prop := archiveLengthsRow.holds Tryz.pinned (OpenSpec.ofChange archiveLengthsSpec)

/-- ITS FALSE NEIGHBOUR: 'it returns false'. Refute it at one input. -/
def archiveLengthsWrong : ChangeSpec := { name := "archiveLengths", fn := fun _ => fun
  | [d1, d2, d3, d4] => { results := [.lit (.bool false)], args := [d1, d2, d3, d4] }
  | _ => none }
def ArchiveLengthsWrongFalsely : Prop := archiveLengthsRow.holds Tryz.pinned (OpenSpec.ofChange archiveLengthsWrong)

/-- 'haversacklaw13.ArchiveEscapes': WHATEVER THE INPUT: true; the input reads as it did. -/
def archiveEscapesSpec : ChangeSpec := { name := "archiveEscapes", fn := fun _ => fun
  | [d1, d2, d3, d4] => { results := [.lit (.bool true)], args := [d1, d2, d3, d4] }
  | _ => none }
def archiveEscapesRow : OpenClaim := { program := "ytmdpmpdlkaogdaagreatdoor", sum := "aad7d827b26426f03a87b5462233d5741091ced6e29a941d1962135e9698ba66", func := "haversack/haversacklaw13.ArchiveEscapes", spec := "archiveEscapes", inPlace := ["internal/bytealg.CountString", "internal/bytealg.IndexByteString", "internal/bytealg.IndexString", "internal/abi.NoEscape", "internal/bytealg.MakeNoZero"], unfollowed := true, recurses := true, named := ["unicode/utf8.first", "unicode/utf8.acceptRanges", "internal/bytealg.MaxLen"], apart := false, laid := [("unicode/utf8.acceptRanges", laid_unicode_utf8_acceptRanges), ("unicode/utf8.first", laid_unicode_utf8_first)] }
def ArchiveEscapesSaid : Prop := archiveEscapesRow.holds Tryz.pinned (OpenSpec.ofChange archiveEscapesSpec)

/-- ITS FALSE NEIGHBOUR: 'it returns false'. Refute it at one input. -/
def archiveEscapesWrong : ChangeSpec := { name := "archiveEscapes", fn := fun _ => fun
  | [d1, d2, d3, d4] => { results := [.lit (.bool false)], args := [d1, d2, d3, d4] }
  | _ => none }
def ArchiveEscapesWrongFalsely : Prop := archiveEscapesRow.holds Tryz.pinned (OpenSpec.ofChange archiveEscapesWrong)

/-- 'haversacklaw13.ArchiveTwice': WHATEVER THE INPUT: true; the input reads as it did. -/
def archiveTwiceSpec : ChangeSpec := { name := "archiveTwice", fn := fun _ => fun
  | [d1, d2, d3, d4] => { results := [.lit (.bool true)], args := [d1, d2, d3, d4] }
  | _ => none }
def archiveTwiceRow : OpenClaim := { program := "ytmdpmpdlkaogdaagreatdoor", sum := "aad7d827b26426f03a87b5462233d5741091ced6e29a941d1962135e9698ba66", func := "haversack/haversacklaw13.ArchiveTwice", spec := "archiveTwice", inPlace := ["internal/bytealg.CountString", "internal/bytealg.IndexByteString", "internal/bytealg.IndexString", "internal/abi.NoEscape", "internal/bytealg.MakeNoZero"], unfollowed := true, recurses := true, named := ["unicode/utf8.first", "unicode/utf8.acceptRanges", "internal/bytealg.MaxLen"], apart := false, laid := [("unicode/utf8.acceptRanges", laid_unicode_utf8_acceptRanges), ("unicode/utf8.first", laid_unicode_utf8_first)] }
def ArchiveTwiceSaid : Prop := archiveTwiceRow.holds Tryz.pinned (OpenSpec.ofChange archiveTwiceSpec)

/-- ITS FALSE NEIGHBOUR: 'it returns false'. Refute it at one input. -/
def archiveTwiceWrong : ChangeSpec := { name := "archiveTwice", fn := fun _ => fun
  | [d1, d2, d3, d4] => { results := [.lit (.bool false)], args := [d1, d2, d3, d4] }
  | _ => none }
def ArchiveTwiceWrongFalsely : Prop := archiveTwiceRow.holds Tryz.pinned (OpenSpec.ofChange archiveTwiceWrong)

/-- 'haversacklaw8.TreeOrder': WHATEVER THE INPUT: true; the input reads as it did. -/
def treeOrderSpec : ChangeSpec := { name := "treeOrder", fn := fun _ => fun
  | [d1, d2] => { results := [.lit (.bool true)], args := [d1, d2] }
  | _ => none }
def treeOrderRow : OpenClaim := { program := "ytmdpmpdlkaogdaagreatdoor", sum := "aad7d827b26426f03a87b5462233d5741091ced6e29a941d1962135e9698ba66", func := "haversack/haversacklaw8.TreeOrder", spec := "treeOrder", inPlace := ["internal/bytealg.CountString", "internal/bytealg.IndexByteString", "internal/bytealg.IndexString", "internal/abi.NoEscape", "internal/bytealg.MakeNoZero"], unfollowed := true, recurses := true, named := ["unicode/utf8.first", "unicode/utf8.acceptRanges", "internal/bytealg.MaxLen"], apart := false, laid := [("unicode/utf8.acceptRanges", laid_unicode_utf8_acceptRanges), ("unicode/utf8.first", laid_unicode_utf8_first)] }
def TreeOrderSaid : Prop := treeOrderRow.holds Tryz.pinned (OpenSpec.ofChange treeOrderSpec)

/-- ITS FALSE NEIGHBOUR: 'it returns false'. Refute it at one input. -/
def treeOrderWrong : ChangeSpec := { name := "treeOrder", fn := fun _ => fun
  | [d1, d2] => { results := [.lit (.bool false)], args := [d1, d2] }
  | _ => none }
def TreeOrderWrongFalsely : Prop := treeOrderRow.holds Tryz.pinned (OpenSpec.ofChange treeOrderWrong)

/-- 'haversacklaw8.TreeAppends': WHATEVER THE INPUT: true; the input reads as it did. -/
def treeAppendsSpec : ChangeSpec := { name := "treeAppends", fn := fun _ => fun
  | [d] => { results := [.lit (.bool true)], args := [d] }
  | _ => none }
def treeAppendsRow : OpenClaim := { program := "ytmdpmpdlkaogdaagreatdoor", sum := "aad7d827b26426f03a87b5462233d5741091ced6e29a941d1962135e9698ba66", func := "haversack/haversacklaw8.TreeAppends", spec := "treeAppends", inPlace := ["internal/bytealg.CountString", "internal/bytealg.IndexByteString", "internal/bytealg.IndexString", "internal/abi.NoEscape", "internal/bytealg.MakeNoZero"], unfollowed := true, recurses := true, named := ["unicode/utf8.first", "unicode/utf8.acceptRanges", "internal/bytealg.MaxLen"], apart := false, laid := [("unicode/utf8.acceptRanges", laid_unicode_utf8_acceptRanges), ("unicode/utf8.first", laid_unicode_utf8_first)] }
def TreeAppendsSaid : Prop := treeAppendsRow.holds Tryz.pinned (OpenSpec.ofChange treeAppendsSpec)

/-- ITS FALSE NEIGHBOUR: 'it returns false'. Refute it at one input. -/
def treeAppendsWrong : ChangeSpec := { name := "treeAppends", fn := fun _ => fun
  | [d] => { results := [.lit (.bool false)], args := [d] }
  | _ => none }
def TreeAppendsWrongFalsely : Prop := treeAppendsRow.holds Tryz.pinned (OpenSpec.ofChange treeAppendsWrong)

/-- 'haversacklaw8.TreeRemoves': WHATEVER THE INPUT: true; the input reads as it did. -/
def treeRemovesSpec : ChangeSpec := { name := "treeRemoves", fn := fun _ => fun
  | [d1, d2] => { results := [.lit (.bool true)], args := [d1, d2] }
  | _ => none }
def treeRemovesRow : OpenClaim := { program := "ytmdpmpdlkaogdaagreatdoor", sum := "aad7d827b26426f03a87b5462233d5741091ced6e29a941d1962135e9698ba66", func := "haversack/haversacklaw8.TreeRemoves", spec := "treeRemoves", inPlace := ["internal/bytealg.CountString", "internal/bytealg.IndexByteString", "internal/bytealg.IndexString", "internal/abi.NoEscape", "internal/bytealg.MakeNoZero"], unfollowed := true, recurses := true, named := ["unicode/utf8.first", "unicode/utf8.acceptRanges", "internal/bytealg.MaxLen"], apart := false, laid := [("unicode/utf8.acceptRanges", laid_unicode_utf8_acceptRanges), ("unicode/utf8.first", laid_unicode_utf8_first)] }
def TreeRemovesSaid : Prop := treeRemovesRow.holds Tryz.pinned (OpenSpec.ofChange treeRemovesSpec)

/-- ITS FALSE NEIGHBOUR: 'it returns false'. Refute it at one input. -/
def treeRemovesWrong : ChangeSpec := { name := "treeRemoves", fn := fun _ => fun
  | [d1, d2] => { results := [.lit (.bool false)], args := [d1, d2] }
  | _ => none }
def TreeRemovesWrongFalsely : Prop := treeRemovesRow.holds Tryz.pinned (OpenSpec.ofChange treeRemovesWrong)

/-- 'haversacklaw8.TreeFull': WHATEVER THE INPUT: true; the input reads as it did. -/
def treeFullSpec : ChangeSpec := { name := "treeFull", fn := fun _ => fun
  | [d1, d2] => { results := [.lit (.bool true)], args := [d1, d2] }
  | _ => none }
def treeFullRow : OpenClaim := { program := "ytmdpmpdlkaogdaagreatdoor", sum := "aad7d827b26426f03a87b5462233d5741091ced6e29a941d1962135e9698ba66", func := "haversack/haversacklaw8.TreeFull", spec := "treeFull", inPlace := ["internal/bytealg.CountString", "internal/bytealg.IndexByteString", "internal/bytealg.IndexString", "internal/abi.NoEscape", "internal/bytealg.MakeNoZero"], unfollowed := true, recurses := true, named := ["unicode/utf8.first", "unicode/utf8.acceptRanges", "internal/bytealg.MaxLen"], apart := false, laid := [("unicode/utf8.acceptRanges", laid_unicode_utf8_acceptRanges), ("unicode/utf8.first", laid_unicode_utf8_first)] }
def TreeFullSaid : Prop := treeFullRow.holds Tryz.pinned (OpenSpec.ofChange treeFullSpec)

/-- ITS FALSE NEIGHBOUR: 'it returns false'. Refute it at one input. -/
def treeFullWrong : ChangeSpec := { name := "treeFull", fn := fun _ => fun
  | [d1, d2] => { results := [.lit (.bool false)], args := [d1, d2] }
  | _ => none }
def TreeFullWrongFalsely : Prop := treeFullRow.holds Tryz.pinned (OpenSpec.ofChange treeFullWrong)

/-- 'haversacklaw8.TreeClones': WHATEVER THE INPUT: true; the input reads as it did. -/
def treeClonesSpec : ChangeSpec := { name := "treeClones", fn := fun _ => fun
  | [d1, d2] => { results := [.lit (.bool true)], args := [d1, d2] }
  | _ => none }
def treeClonesRow : OpenClaim := { program := "ytmdpmpdlkaogdaagreatdoor", sum := "aad7d827b26426f03a87b5462233d5741091ced6e29a941d1962135e9698ba66", func := "haversack/haversacklaw8.TreeClones", spec := "treeClones", inPlace := ["internal/bytealg.CountString", "internal/bytealg.IndexByteString", "internal/bytealg.IndexString", "internal/abi.NoEscape", "internal/bytealg.MakeNoZero"], unfollowed := true, recurses := true, named := ["unicode/utf8.first", "unicode/utf8.acceptRanges", "internal/bytealg.MaxLen"], apart := false, laid := [("unicode/utf8.acceptRanges", laid_unicode_utf8_acceptRanges), ("unicode/utf8.first", laid_unicode_utf8_first)] }
def TreeClonesSaid : Prop := treeClonesRow.holds Tryz.pinned (OpenSpec.ofChange treeClonesSpec)

/-- ITS FALSE NEIGHBOUR: 'it returns false'. Refute it at one input. -/
def treeClonesWrong : ChangeSpec := { name := "treeClones", fn := fun _ => fun
  | [d1, d2] => { results := [.lit (.bool false)], args := [d1, d2] }
  | _ => none }
def TreeClonesWrongFalsely : Prop := treeClonesRow.holds Tryz.pinned (OpenSpec.ofChange treeClonesWrong)

/-- 'haversacklaw8.TreeMoves': WHATEVER THE INPUT: true; the input reads as it did. -/
def treeMovesSpec : ChangeSpec := { name := "treeMoves", fn := fun _ => fun
  | [d1, d2, d3] => { results := [.lit (.bool true)], args := [d1, d2, d3] }
  | _ => none }
def treeMovesRow : OpenClaim := { program := "ytmdpmpdlkaogdaagreatdoor", sum := "aad7d827b26426f03a87b5462233d5741091ced6e29a941d1962135e9698ba66", func := "haversack/haversacklaw8.TreeMoves", spec := "treeMoves", inPlace := ["internal/bytealg.CountString", "internal/bytealg.IndexByteString", "internal/bytealg.IndexString", "internal/abi.NoEscape", "internal/bytealg.MakeNoZero"], unfollowed := true, recurses := true, named := ["unicode/utf8.first", "unicode/utf8.acceptRanges", "internal/bytealg.MaxLen"], apart := false, laid := [("unicode/utf8.acceptRanges", laid_unicode_utf8_acceptRanges), ("unicode/utf8.first", laid_unicode_utf8_first)] }
def TreeMovesSaid : Prop := treeMovesRow.holds Tryz.pinned (OpenSpec.ofChange treeMovesSpec)

/-- ITS FALSE NEIGHBOUR: 'it returns false'. Refute it at one input. -/
def treeMovesWrong : ChangeSpec := { name := "treeMoves", fn := fun _ => fun
  | [d1, d2, d3] => { results := [.lit (.bool false)], args := [d1, d2, d3] }
  | _ => none }
def TreeMovesWrongFalsely : Prop := treeMovesRow.holds Tryz.pinned (OpenSpec.ofChange treeMovesWrong)

/-- 'haversacklaw8.TreeOf': WHATEVER THE INPUT: true; the input reads as it did. -/
def treeOfSpec : ChangeSpec := { name := "treeOf", fn := fun _ => fun
  | [d] => { results := [.lit (.bool true)], args := [d] }
  | _ => none }
def treeOfRow : OpenClaim := { program := "ytmdpmpdlkaogdaagreatdoor", sum := "aad7d827b26426f03a87b5462233d5741091ced6e29a941d1962135e9698ba66", func := "haversack/haversacklaw8.TreeOf", spec := "treeOf", inPlace := ["internal/bytealg.CountString", "internal/bytealg.IndexByteString", "internal/bytealg.IndexString", "internal/abi.NoEscape", "internal/bytealg.MakeNoZero"], unfollowed := true, recurses := true, named := ["unicode/utf8.first", "unicode/utf8.acceptRanges", "internal/bytealg.MaxLen"], apart := false, laid := [("unicode/utf8.acceptRanges", laid_unicode_utf8_acceptRanges), ("unicode/utf8.first", laid_unicode_utf8_first)] }
def TreeOfSaid : Prop := treeOfRow.holds Tryz.pinned (OpenSpec.ofChange treeOfSpec)

/-- ITS FALSE NEIGHBOUR: 'it returns false'. Refute it at one input. -/
def treeOfWrong : ChangeSpec := { name := "treeOf", fn := fun _ => fun
  | [d] => { results := [.lit (.bool false)], args := [d] }
  | _ => none }
def TreeOfWrongFalsely : Prop := treeOfRow.holds Tryz.pinned (OpenSpec.ofChange treeOfWrong)

/-- 'haversacklaw8.TreePlays': WHATEVER THE INPUT: true; the input reads as it did. -/
def treePlaysSpec : ChangeSpec := { name := "treePlays", fn := fun _ => fun
  | [d] => { results := [.lit (.bool true)], args := [d] }
  | _ => none }
def treePlaysRow : OpenClaim := { program := "ytmdpmpdlkaogdaagreatdoor", sum := "aad7d827b26426f03a87b5462233d5741091ced6e29a941d1962135e9698ba66", func := "haversack/haversacklaw8.TreePlays", spec := "treePlays", inPlace := ["internal/bytealg.CountString", "internal/bytealg.IndexByteString", "internal/bytealg.IndexString", "internal/abi.NoEscape", "internal/bytealg.MakeNoZero"], unfollowed := true, recurses := true, named := ["unicode/utf8.first", "unicode/utf8.acceptRanges", "internal/bytealg.MaxLen"], apart := false, laid := [("unicode/utf8.acceptRanges", laid_unicode_utf8_acceptRanges), ("unicode/utf8.first", laid_unicode_utf8_first)] }
def TreePlaysSaid : Prop := treePlaysRow.holds Tryz.pinned (OpenSpec.ofChange treePlaysSpec)

/-- ITS FALSE NEIGHBOUR: 'it returns false'. Refute it at one input. -/
def treePlaysWrong : ChangeSpec := { name := "treePlays", fn := fun _ => fun
  | [d] => { results := [.lit (.bool false)], args := [d] }
  | _ => none }
def TreePlaysWrongFalsely : Prop := treePlaysRow.holds Tryz.pinned (OpenSpec.ofChange treePlaysWrong)

/- THE SECOND FORM. 'bulk': how many values and letters a reading holds, each counted each time it is reached (what is shared counts as often as it is met; a slice's spare places count too). A statement '..UptoSaid' is the law's where the arguments, and the package variables that the reading takes, are together of bulk at most 1048576: NARROWER than '..Said'. Prove '..Said' where nothing that the law and all that it calls make is longer than what came in: it says more and counts as full. Else prove '..UptoSaid'. A law counts once. -/
mutual
def uptoBulk {H : Type} : DataW H → Nat
  | .lit (.string bytes) => bytes.length + 1
  | .lit _ => 1
  | .nil => 1
  | .ptr d => uptoBulk d + 1
  | .slice elems spare => uptoBulkAll elems + uptoBulkAll spare + 1
  | .agg parts => uptoBulkAll parts + 1
  | .iface _ d => uptoBulk d + 1
  | .map entries => uptoBulkEntries entries + 1
  | .held _ => 1
def uptoBulkAll {H : Type} : List (DataW H) → Nat
  | [] => 0
  | d :: r => uptoBulk d + uptoBulkAll r
def uptoBulkEntries {H : Type} : List (Lit × DataW H) → Nat
  | [] => 0
  | x :: r => uptoBulkEntry x + uptoBulkEntries r
def uptoBulkEntry {H : Type} : Lit × DataW H → Nat
  | (.string bytes, d) => bytes.length + uptoBulk d + 1
  | (_, d) => uptoBulk d + 1
 end
def uptoSmall : (H : Type) → List (DataW H) → Bool := fun _ ds => decide (uptoBulkAll ds ≤ 1048576)
def OpenSpec.upto (s : _root_.Go.ChangeSpec) : _root_.Go.OpenSpec := { _root_.Go.OpenSpec.ofChange s with cond := some uptoSmall }

/-- 'haversacklaw13.ArchivePacks', WHERE WHAT IT READS IS OF BULK AT MOST 1048576: true; the input reads as it did. -/
def archivePacksUptoRow : OpenClaim := { program := "ytmdpmpdlkaogdaagreatdoor", sum := "aad7d827b26426f03a87b5462233d5741091ced6e29a941d1962135e9698ba66", func := "haversack/haversacklaw13.ArchivePacks", spec := "archivePacks", inPlace := ["internal/bytealg.CountString", "internal/bytealg.IndexByteString", "internal/bytealg.IndexString", "internal/abi.NoEscape", "internal/bytealg.MakeNoZero"], unfollowed := true, recurses := true, named := ["unicode/utf8.first", "unicode/utf8.acceptRanges", "internal/bytealg.MaxLen"], apart := false, laid := [("unicode/utf8.acceptRanges", laid_unicode_utf8_acceptRanges), ("unicode/utf8.first", laid_unicode_utf8_first)], narrowed := true }
def ArchivePacksUptoSaid : Prop := archivePacksUptoRow.holds Tryz.pinned (OpenSpec.upto archivePacksSpec)

/-- 'haversacklaw13.ArchiveOpens', WHERE WHAT IT READS IS OF BULK AT MOST 1048576: true; the input reads as it did. -/
def archiveOpensUptoRow : OpenClaim := { program := "ytmdpmpdlkaogdaagreatdoor", sum := "aad7d827b26426f03a87b5462233d5741091ced6e29a941d1962135e9698ba66", func := "haversack/haversacklaw13.ArchiveOpens", spec := "archiveOpens", inPlace := ["internal/bytealg.CountString", "internal/bytealg.IndexByteString", "internal/bytealg.IndexString", "internal/abi.NoEscape", "internal/bytealg.MakeNoZero"], unfollowed := true, recurses := true, named := ["unicode/utf8.first", "unicode/utf8.acceptRanges", "internal/bytealg.MaxLen"], apart := false, laid := [("unicode/utf8.acceptRanges", laid_unicode_utf8_acceptRanges), ("unicode/utf8.first", laid_unicode_utf8_first)], narrowed := true }
def ArchiveOpensUptoSaid : Prop := archiveOpensUptoRow.holds Tryz.pinned (OpenSpec.upto archiveOpensSpec)

/-- 'haversacklaw13.ArchiveLengths', WHERE WHAT IT READS IS OF BULK AT MOST 1048576: true; the input reads as it did. -/
def archiveLengthsUptoRow : OpenClaim := { program := "ytmdpmpdlkaogdaagreatdoor", sum := "aad7d827b26426f03a87b5462233d5741091ced6e29a941d1962135e9698ba66", func := "haversack/haversacklaw13.ArchiveLengths", spec := "archiveLengths", inPlace := ["internal/bytealg.CountString", "internal/bytealg.IndexByteString", "internal/bytealg.IndexString", "internal/abi.NoEscape", "internal/bytealg.MakeNoZero"], unfollowed := true, recurses := true, named := ["unicode/utf8.first", "unicode/utf8.acceptRanges", "internal/bytealg.MaxLen"], apart := false, laid := [("unicode/utf8.acceptRanges", laid_unicode_utf8_acceptRanges), ("unicode/utf8.first", laid_unicode_utf8_first)], narrowed := true }
def ArchiveLengthsUptoSaid : Prop := archiveLengthsUptoRow.holds Tryz.pinned (OpenSpec.upto archiveLengthsSpec)

/-- 'haversacklaw13.ArchiveEscapes', WHERE WHAT IT READS IS OF BULK AT MOST 1048576: true; the input reads as it did. -/
def archiveEscapesUptoRow : OpenClaim := { program := "ytmdpmpdlkaogdaagreatdoor", sum := "aad7d827b26426f03a87b5462233d5741091ced6e29a941d1962135e9698ba66", func := "haversack/haversacklaw13.ArchiveEscapes", spec := "archiveEscapes", inPlace := ["internal/bytealg.CountString", "internal/bytealg.IndexByteString", "internal/bytealg.IndexString", "internal/abi.NoEscape", "internal/bytealg.MakeNoZero"], unfollowed := true, recurses := true, named := ["unicode/utf8.first", "unicode/utf8.acceptRanges", "internal/bytealg.MaxLen"], apart := false, laid := [("unicode/utf8.acceptRanges", laid_unicode_utf8_acceptRanges), ("unicode/utf8.first", laid_unicode_utf8_first)], narrowed := true }
def ArchiveEscapesUptoSaid : Prop := archiveEscapesUptoRow.holds Tryz.pinned (OpenSpec.upto archiveEscapesSpec)

/-- 'haversacklaw13.ArchiveTwice', WHERE WHAT IT READS IS OF BULK AT MOST 1048576: true; the input reads as it did. -/
def archiveTwiceUptoRow : OpenClaim := { program := "ytmdpmpdlkaogdaagreatdoor", sum := "aad7d827b26426f03a87b5462233d5741091ced6e29a941d1962135e9698ba66", func := "haversack/haversacklaw13.ArchiveTwice", spec := "archiveTwice", inPlace := ["internal/bytealg.CountString", "internal/bytealg.IndexByteString", "internal/bytealg.IndexString", "internal/abi.NoEscape", "internal/bytealg.MakeNoZero"], unfollowed := true, recurses := true, named := ["unicode/utf8.first", "unicode/utf8.acceptRanges", "internal/bytealg.MaxLen"], apart := false, laid := [("unicode/utf8.acceptRanges", laid_unicode_utf8_acceptRanges), ("unicode/utf8.first", laid_unicode_utf8_first)], narrowed := true }
def ArchiveTwiceUptoSaid : Prop := archiveTwiceUptoRow.holds Tryz.pinned (OpenSpec.upto archiveTwiceSpec)

/-- 'haversacklaw8.TreeOrder', WHERE WHAT IT READS IS OF BULK AT MOST 1048576: true; the input reads as it did. -/
def treeOrderUptoRow : OpenClaim := { program := "ytmdpmpdlkaogdaagreatdoor", sum := "aad7d827b26426f03a87b5462233d5741091ced6e29a941d1962135e9698ba66", func := "haversack/haversacklaw8.TreeOrder", spec := "treeOrder", inPlace := ["internal/bytealg.CountString", "internal/bytealg.IndexByteString", "internal/bytealg.IndexString", "internal/abi.NoEscape", "internal/bytealg.MakeNoZero"], unfollowed := true, recurses := true, named := ["unicode/utf8.first", "unicode/utf8.acceptRanges", "internal/bytealg.MaxLen"], apart := false, laid := [("unicode/utf8.acceptRanges", laid_unicode_utf8_acceptRanges), ("unicode/utf8.first", laid_unicode_utf8_first)], narrowed := true }
def TreeOrderUptoSaid : Prop := treeOrderUptoRow.holds Tryz.pinned (OpenSpec.upto treeOrderSpec)

/-- 'haversacklaw8.TreeAppends', WHERE WHAT IT READS IS OF BULK AT MOST 1048576: true; the input reads as it did. -/
def treeAppendsUptoRow : OpenClaim := { program := "ytmdpmpdlkaogdaagreatdoor", sum := "aad7d827b26426f03a87b5462233d5741091ced6e29a941d1962135e9698ba66", func := "haversack/haversacklaw8.TreeAppends", spec := "treeAppends", inPlace := ["internal/bytealg.CountString", "internal/bytealg.IndexByteString", "internal/bytealg.IndexString", "internal/abi.NoEscape", "internal/bytealg.MakeNoZero"], unfollowed := true, recurses := true, named := ["unicode/utf8.first", "unicode/utf8.acceptRanges", "internal/bytealg.MaxLen"], apart := false, laid := [("unicode/utf8.acceptRanges", laid_unicode_utf8_acceptRanges), ("unicode/utf8.first", laid_unicode_utf8_first)], narrowed := true }
def TreeAppendsUptoSaid : Prop := treeAppendsUptoRow.holds Tryz.pinned (OpenSpec.upto treeAppendsSpec)

/-- 'haversacklaw8.TreeRemoves', WHERE WHAT IT READS IS OF BULK AT MOST 1048576: true; the input reads as it did. -/
def treeRemovesUptoRow : OpenClaim := { program := "ytmdpmpdlkaogdaagreatdoor", sum := "aad7d827b26426f03a87b5462233d5741091ced6e29a941d1962135e9698ba66", func := "haversack/haversacklaw8.TreeRemoves", spec := "treeRemoves", inPlace := ["internal/bytealg.CountString", "internal/bytealg.IndexByteString", "internal/bytealg.IndexString", "internal/abi.NoEscape", "internal/bytealg.MakeNoZero"], unfollowed := true, recurses := true, named := ["unicode/utf8.first", "unicode/utf8.acceptRanges", "internal/bytealg.MaxLen"], apart := false, laid := [("unicode/utf8.acceptRanges", laid_unicode_utf8_acceptRanges), ("unicode/utf8.first", laid_unicode_utf8_first)], narrowed := true }
def TreeRemovesUptoSaid : Prop := treeRemovesUptoRow.holds Tryz.pinned (OpenSpec.upto treeRemovesSpec)

/-- 'haversacklaw8.TreeFull', WHERE WHAT IT READS IS OF BULK AT MOST 1048576: true; the input reads as it did. -/
def treeFullUptoRow : OpenClaim := { program := "ytmdpmpdlkaogdaagreatdoor", sum := "aad7d827b26426f03a87b5462233d5741091ced6e29a941d1962135e9698ba66", func := "haversack/haversacklaw8.TreeFull", spec := "treeFull", inPlace := ["internal/bytealg.CountString", "internal/bytealg.IndexByteString", "internal/bytealg.IndexString", "internal/abi.NoEscape", "internal/bytealg.MakeNoZero"], unfollowed := true, recurses := true, named := ["unicode/utf8.first", "unicode/utf8.acceptRanges", "internal/bytealg.MaxLen"], apart := false, laid := [("unicode/utf8.acceptRanges", laid_unicode_utf8_acceptRanges), ("unicode/utf8.first", laid_unicode_utf8_first)], narrowed := true }
def TreeFullUptoSaid : Prop := treeFullUptoRow.holds Tryz.pinned (OpenSpec.upto treeFullSpec)

/-- 'haversacklaw8.TreeClones', WHERE WHAT IT READS IS OF BULK AT MOST 1048576: true; the input reads as it did. -/
def treeClonesUptoRow : OpenClaim := { program := "ytmdpmpdlkaogdaagreatdoor", sum := "aad7d827b26426f03a87b5462233d5741091ced6e29a941d1962135e9698ba66", func := "haversack/haversacklaw8.TreeClones", spec := "treeClones", inPlace := ["internal/bytealg.CountString", "internal/bytealg.IndexByteString", "internal/bytealg.IndexString", "internal/abi.NoEscape", "internal/bytealg.MakeNoZero"], unfollowed := true, recurses := true, named := ["unicode/utf8.first", "unicode/utf8.acceptRanges", "internal/bytealg.MaxLen"], apart := false, laid := [("unicode/utf8.acceptRanges", laid_unicode_utf8_acceptRanges), ("unicode/utf8.first", laid_unicode_utf8_first)], narrowed := true }
def TreeClonesUptoSaid : Prop := treeClonesUptoRow.holds Tryz.pinned (OpenSpec.upto treeClonesSpec)

/-- 'haversacklaw8.TreeMoves', WHERE WHAT IT READS IS OF BULK AT MOST 1048576: true; the input reads as it did. -/
def treeMovesUptoRow : OpenClaim := { program := "ytmdpmpdlkaogdaagreatdoor", sum := "aad7d827b26426f03a87b5462233d5741091ced6e29a941d1962135e9698ba66", func := "haversack/haversacklaw8.TreeMoves", spec := "treeMoves", inPlace := ["internal/bytealg.CountString", "internal/bytealg.IndexByteString", "internal/bytealg.IndexString", "internal/abi.NoEscape", "internal/bytealg.MakeNoZero"], unfollowed := true, recurses := true, named := ["unicode/utf8.first", "unicode/utf8.acceptRanges", "internal/bytealg.MaxLen"], apart := false, laid := [("unicode/utf8.acceptRanges", laid_unicode_utf8_acceptRanges), ("unicode/utf8.first", laid_unicode_utf8_first)], narrowed := true }
def TreeMovesUptoSaid : Prop := treeMovesUptoRow.holds Tryz.pinned (OpenSpec.upto treeMovesSpec)

/-- 'haversacklaw8.TreeOf', WHERE WHAT IT READS IS OF BULK AT MOST 1048576: true; the input reads as it did. -/
def treeOfUptoRow : OpenClaim := { program := "ytmdpmpdlkaogdaagreatdoor", sum := "aad7d827b26426f03a87b5462233d5741091ced6e29a941d1962135e9698ba66", func := "haversack/haversacklaw8.TreeOf", spec := "treeOf", inPlace := ["internal/bytealg.CountString", "internal/bytealg.IndexByteString", "internal/bytealg.IndexString", "internal/abi.NoEscape", "internal/bytealg.MakeNoZero"], unfollowed := true, recurses := true, named := ["unicode/utf8.first", "unicode/utf8.acceptRanges", "internal/bytealg.MaxLen"], apart := false, laid := [("unicode/utf8.acceptRanges", laid_unicode_utf8_acceptRanges), ("unicode/utf8.first", laid_unicode_utf8_first)], narrowed := true }
def TreeOfUptoSaid : Prop := treeOfUptoRow.holds Tryz.pinned (OpenSpec.upto treeOfSpec)

/-- 'haversacklaw8.TreePlays', WHERE WHAT IT READS IS OF BULK AT MOST 1048576: true; the input reads as it did. -/
def treePlaysUptoRow : OpenClaim := { program := "ytmdpmpdlkaogdaagreatdoor", sum := "aad7d827b26426f03a87b5462233d5741091ced6e29a941d1962135e9698ba66", func := "haversack/haversacklaw8.TreePlays", spec := "treePlays", inPlace := ["internal/bytealg.CountString", "internal/bytealg.IndexByteString", "internal/bytealg.IndexString", "internal/abi.NoEscape", "internal/bytealg.MakeNoZero"], unfollowed := true, recurses := true, named := ["unicode/utf8.first", "unicode/utf8.acceptRanges", "internal/bytealg.MaxLen"], apart := false, laid := [("unicode/utf8.acceptRanges", laid_unicode_utf8_acceptRanges), ("unicode/utf8.first", laid_unicode_utf8_first)], narrowed := true }
def TreePlaysUptoSaid : Prop := treePlaysUptoRow.holds Tryz.pinned (OpenSpec.upto treePlaysSpec)

end Rows
end Go.Proofs.YtmdpmpdlkaogdaaGreatDoor
