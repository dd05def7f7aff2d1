/-
  NARROWER THAN 'FOR EVERY INPUT', by the rows' own cells (each row's printed sentence says how): ArchiveWrites: laid · ArchiveBack: laid · ArchivePieces: laid · ArchiveTurned: laid · ArchiveNil: laid · ArchiveFeeds: laid · ArchiveKnown: laid.
  DERIVED. THE GIVEN ROWS OF THIS SEAT. 7 by the template 'for every input the law returns true; each argument reads behind the call as it read before'; 0 by the template 'total and deterministic' (their statements: YtcpnnkkfndgpjaaDoorTotals.lean).
  GIVEN WITH THE SEED: the statements are not yours to turn. If you find one false, say at which input.
  Laid BY PROGRAM, IN A SANDBOX (cutbox-rows.mjs): the forced cells as the released guide's own fill.sh prints them over the translation 0ceb8ff584ba6f10… (all of the seat's roots in one cut). By AI agents, Wed Nov 11 2026. No macro, syntax, notation, axiom, sorry.
-/
import Derived.Test.YtcpnnkkfndgpjaaDoorChecked
import GoSem.PinnedTables
import GoSem.Claim
import GoSem.ClaimJoined
import GoSem.ClaimMapViews
import Derived.JoinedTies
import Derived.KernelRfl
namespace Go.Proofs.YtcpnnkkfndgpjaaDoor
/- THE CELL 'sum', in the pinned program and in every row, IS THE sha256 OF THE DUMP (.gsa) THAT YtcpnnkkfndgpjaaDoorProg.lean LOADS. Nothing in Lean hashes anything: it is a label: what it is worth is what the hold of that sum in a sandbox is worth. -/
noncomputable def Tryd.pinned : Pinned := { name := "ytcpnnkkfndgpjaadoor", sum := "0ceb8ff584ba6f109502ccd18d0a1bcb200e709f14911c71e275b290f6b7eb0d", checked := Tryd.checked }
namespace Rows
def none {H : Type} : Left H := { results := [], args := [] }

/- WHAT THE LISTED PACKAGE-LEVEL VARIABLES READ AS WHEN THE CALL BEGINS. Each datum BY PROGRAM (the guide's laid-datum.mjs) off the statement by which the dump's own 'gosem.cut.vars' lays the variable. In a bare row this is a premise. The card (YtcpnnkkfndgpjaaDoorCards.lean) ties it to the program's text. -/
def laid_unicode_utf8_acceptRanges {H : Type} : DataW H := .agg [.agg [.lit (.int .u8 128), .lit (.int .u8 191)], .agg [.lit (.int .u8 160), .lit (.int .u8 191)], .agg [.lit (.int .u8 128), .lit (.int .u8 159)], .agg [.lit (.int .u8 144), .lit (.int .u8 191)], .agg [.lit (.int .u8 128), .lit (.int .u8 143)], .agg [.lit (.int .u8 0), .lit (.int .u8 0)], .agg [.lit (.int .u8 0), .lit (.int .u8 0)], .agg [.lit (.int .u8 0), .lit (.int .u8 0)], .agg [.lit (.int .u8 0), .lit (.int .u8 0)], .agg [.lit (.int .u8 0), .lit (.int .u8 0)], .agg [.lit (.int .u8 0), .lit (.int .u8 0)], .agg [.lit (.int .u8 0), .lit (.int .u8 0)], .agg [.lit (.int .u8 0), .lit (.int .u8 0)], .agg [.lit (.int .u8 0), .lit (.int .u8 0)], .agg [.lit (.int .u8 0), .lit (.int .u8 0)], .agg [.lit (.int .u8 0), .lit (.int .u8 0)]]
/-- One of Go's own tables, pinned by name: the form's constant. -/
def laid_unicode_utf8_first : DataW Unit := Go.Pinned.utf8First

/-- 'mantlelaw26.ArchiveWrites': WHATEVER THE INPUT: true; the input reads as it did. -/
def archiveWritesSpec : ChangeSpec := { name := "archiveWrites", fn := fun _ => fun
  | [d] => { results := [.lit (.bool true)], args := [d] }
  | _ => none }
def archiveWritesRow : OpenClaim := { program := "ytcpnnkkfndgpjaadoor", sum := "0ceb8ff584ba6f109502ccd18d0a1bcb200e709f14911c71e275b290f6b7eb0d", func := "mantle/mantlelaw26.ArchiveWrites", spec := "archiveWrites", inPlace := ["internal/bytealg.CountString", "internal/bytealg.IndexByteString", "internal/bytealg.IndexString", "internal/abi.NoEscape", "internal/bytealg.MakeNoZero"], unfollowed := true, recurses := true, named := ["unicode/utf8.first", "unicode/utf8.acceptRanges", "internal/bytealg.MaxLen"], apart := false, laid := [("unicode/utf8.acceptRanges", laid_unicode_utf8_acceptRanges), ("unicode/utf8.first", laid_unicode_utf8_first)] }
def ArchiveWritesSaid : Prop := archiveWritesRow.holds Tryd.pinned (OpenSpec.ofChange archiveWritesSpec)

/-- ITS FALSE NEIGHBOUR: 'it returns false'. Refute it at one input. -/
def archiveWritesWrong : ChangeSpec := { name := "archiveWrites", fn := fun _ => fun
  | [d] => { results := [.lit (.bool false)], args := [d] }
  | _ => none }
def ArchiveWritesWrongFalsely : Prop := archiveWritesRow.holds Tryd.pinned (OpenSpec.ofChange archiveWritesWrong)

/-- 'mantlelaw26.ArchiveBack': WHATEVER THE INPUT: true; the input reads as it did. -/
def archiveBackSpec : ChangeSpec := { name := "archiveBack", fn := fun _ => fun
  | [d1, d2] => { results := [.lit (.bool true)], args := [d1, d2] }
  | _ => none }
def archiveBackRow : OpenClaim := { program := "ytcpnnkkfndgpjaadoor", sum := "0ceb8ff584ba6f109502ccd18d0a1bcb200e709f14911c71e275b290f6b7eb0d", func := "mantle/mantlelaw26.ArchiveBack", spec := "archiveBack", inPlace := ["internal/bytealg.CountString", "internal/bytealg.IndexByteString", "internal/bytealg.IndexString", "internal/abi.NoEscape", "internal/bytealg.MakeNoZero"], unfollowed := true, recurses := true, named := ["unicode/utf8.first", "unicode/utf8.acceptRanges", "internal/bytealg.MaxLen"], apart := false, laid := [("unicode/utf8.acceptRanges", laid_unicode_utf8_acceptRanges), ("unicode/utf8.first", laid_unicode_utf8_first)] }
def ArchiveBackSaid : Prop := archiveBackRow.holds Tryd.pinned (OpenSpec.ofChange archiveBackSpec)

/-- ITS FALSE NEIGHBOUR: 'it returns false'. Refute it at one input. -/
def archiveBackWrong : ChangeSpec := { name := "archiveBack", fn := fun _ => fun
  | [d1, d2] => { results := [.lit (.bool false)], args := [d1, d2] }
  | _ => none }
def ArchiveBackWrongFalsely : Prop := archiveBackRow.holds Tryd.pinned (OpenSpec.ofChange archiveBackWrong)

/-- 'mantlelaw26.ArchivePieces': WHATEVER THE INPUT: true; the input reads as it did. -/
def archivePiecesSpec : ChangeSpec := { name := "archivePieces", fn := fun _ => fun
  | [d1, d2] => { results := [.lit (.bool true)], args := [d1, d2] }
  | _ => none }
def archivePiecesRow : OpenClaim := { program := "ytcpnnkkfndgpjaadoor", sum := "0ceb8ff584ba6f109502ccd18d0a1bcb200e709f14911c71e275b290f6b7eb0d", func := "mantle/mantlelaw26.ArchivePieces", spec := "archivePieces", inPlace := ["internal/bytealg.CountString", "internal/bytealg.IndexByteString", "internal/bytealg.IndexString", "internal/abi.NoEscape", "internal/bytealg.MakeNoZero"], unfollowed := true, recurses := true, named := ["unicode/utf8.first", "unicode/utf8.acceptRanges", "internal/bytealg.MaxLen"], apart := false, laid := [("unicode/utf8.acceptRanges", laid_unicode_utf8_acceptRanges), ("unicode/utf8.first", laid_unicode_utf8_first)] }
def ArchivePiecesSaid : Prop := archivePiecesRow.holds Tryd.pinned (OpenSpec.ofChange archivePiecesSpec)

/-- ITS FALSE NEIGHBOUR: 'it returns false'. Refute it at one input. -/
def archivePiecesWrong : ChangeSpec := { name := "archivePieces", fn := fun _ => fun
  | [d1, d2] => { results := [.lit (.bool false)], args := [d1, d2] }
  | _ => none }
def ArchivePiecesWrongFalsely : Prop := archivePiecesRow.holds Tryd.pinned (OpenSpec.ofChange archivePiecesWrong)

/-- 'mantlelaw26.ArchiveTurned': WHATEVER THE INPUT: true; the input reads as it did. -/
def archiveTurnedSpec : ChangeSpec := { name := "archiveTurned", fn := fun _ => fun
  | [d1, d2, d3] => { results := [.lit (.bool true)], args := [d1, d2, d3] }
  | _ => none }
def archiveTurnedRow : OpenClaim := { program := "ytcpnnkkfndgpjaadoor", sum := "0ceb8ff584ba6f109502ccd18d0a1bcb200e709f14911c71e275b290f6b7eb0d", func := "mantle/mantlelaw26.ArchiveTurned", spec := "archiveTurned", inPlace := ["internal/bytealg.CountString", "internal/bytealg.IndexByteString", "internal/bytealg.IndexString", "internal/abi.NoEscape", "internal/bytealg.MakeNoZero"], unfollowed := true, recurses := true, named := ["unicode/utf8.first", "unicode/utf8.acceptRanges", "internal/bytealg.MaxLen"], apart := false, laid := [("unicode/utf8.acceptRanges", laid_unicode_utf8_acceptRanges), ("unicode/utf8.first", laid_unicode_utf8_first)] }
def ArchiveTurnedSaid : Prop := archiveTurnedRow.holds Tryd.pinned (OpenSpec.ofChange archiveTurnedSpec)

/-- ITS FALSE NEIGHBOUR: 'it returns false'. Refute it at one input. -/
def archiveTurnedWrong : ChangeSpec := { name := "archiveTurned", fn := fun _ => fun
  | [d1, d2, d3] => { results := [.lit (.bool false)], args := [d1, d2, d3] }
  | _ => none }
def ArchiveTurnedWrongFalsely : Prop := archiveTurnedRow.holds Tryd.pinned (OpenSpec.ofChange archiveTurnedWrong)

/-- 'mantlelaw26.ArchiveNil': WHATEVER THE INPUT: true; the input reads as it did. -/
def archiveNilSpec : ChangeSpec := { name := "archiveNil", fn := fun _ => fun
  | [d] => { results := [.lit (.bool true)], args := [d] }
  | _ => none }
def archiveNilRow : OpenClaim := { program := "ytcpnnkkfndgpjaadoor", sum := "0ceb8ff584ba6f109502ccd18d0a1bcb200e709f14911c71e275b290f6b7eb0d", func := "mantle/mantlelaw26.ArchiveNil", spec := "archiveNil", inPlace := ["internal/bytealg.CountString", "internal/bytealg.IndexByteString", "internal/bytealg.IndexString", "internal/abi.NoEscape", "internal/bytealg.MakeNoZero"], unfollowed := true, recurses := true, named := ["unicode/utf8.first", "unicode/utf8.acceptRanges", "internal/bytealg.MaxLen"], apart := false, laid := [("unicode/utf8.acceptRanges", laid_unicode_utf8_acceptRanges), ("unicode/utf8.first", laid_unicode_utf8_first)] }
def ArchiveNilSaid : Prop := archiveNilRow.holds Tryd.pinned (OpenSpec.ofChange archiveNilSpec)

/-- ITS FALSE NEIGHBOUR: 'it returns false'. Refute it at one input. -/
def archiveNilWrong : ChangeSpec := { name := "archiveNil", fn := fun _ => fun
  | [d] => { results := [.lit (.bool false)], args := [d] }
  | _ => none }
def ArchiveNilWrongFalsely : Prop := archiveNilRow.holds Tryd.pinned (OpenSpec.ofChange archiveNilWrong)

/-- 'mantlelaw26.ArchiveFeeds': WHATEVER THE INPUT: true; the input reads as it did. -/
def archiveFeedsSpec : ChangeSpec := { name := "archiveFeeds", fn := fun _ => fun
  | [d1, d2] => { results := [.lit (.bool true)], args := [d1, d2] }
  | _ => none }
def archiveFeedsRow : OpenClaim := { program := "ytcpnnkkfndgpjaadoor", sum := "0ceb8ff584ba6f109502ccd18d0a1bcb200e709f14911c71e275b290f6b7eb0d", func := "mantle/mantlelaw26.ArchiveFeeds", spec := "archiveFeeds", inPlace := ["internal/bytealg.CountString", "internal/bytealg.IndexByteString", "internal/bytealg.IndexString", "internal/abi.NoEscape", "internal/bytealg.MakeNoZero"], unfollowed := true, recurses := true, named := ["unicode/utf8.first", "unicode/utf8.acceptRanges", "internal/bytealg.MaxLen"], apart := false, laid := [("unicode/utf8.acceptRanges", laid_unicode_utf8_acceptRanges), ("unicode/utf8.first", laid_unicode_utf8_first)] }
def ArchiveFeedsSaid : Prop := archiveFeedsRow.holds Tryd.pinned (OpenSpec.ofChange archiveFeedsSpec)

/-- ITS FALSE NEIGHBOUR: 'it returns false'. Refute it at one input. -/
def archiveFeedsWrong : ChangeSpec := { name := "archiveFeeds", fn := fun _ => fun
  | [d1, d2] => { results := [.lit (.bool false)], args := [d1, d2] }
  | _ => none }
def ArchiveFeedsWrongFalsely : Prop := archiveFeedsRow.holds Tryd.pinned (OpenSpec.ofChange archiveFeedsWrong)

/-- 'mantlelaw26.ArchiveKnown': WHATEVER THE INPUT: true; the input reads as it did. -/
def archiveKnownSpec : ChangeSpec := { name := "archiveKnown", fn := fun _ => fun
  | [] => { results := [.lit (.bool true)], args := [] }
  | _ => none }
def archiveKnownRow : OpenClaim := { program := "ytcpnnkkfndgpjaadoor", sum := "0ceb8ff584ba6f109502ccd18d0a1bcb200e709f14911c71e275b290f6b7eb0d", func := "mantle/mantlelaw26.ArchiveKnown", spec := "archiveKnown", inPlace := ["internal/bytealg.CountString", "internal/bytealg.IndexByteString", "internal/bytealg.IndexString", "internal/abi.NoEscape", "internal/bytealg.MakeNoZero"], unfollowed := true, recurses := true, named := ["unicode/utf8.first", "unicode/utf8.acceptRanges", "internal/bytealg.MaxLen"], apart := false, laid := [("unicode/utf8.acceptRanges", laid_unicode_utf8_acceptRanges), ("unicode/utf8.first", laid_unicode_utf8_first)] }
def ArchiveKnownSaid : Prop := archiveKnownRow.holds Tryd.pinned (OpenSpec.ofChange archiveKnownSpec)

/-- ITS FALSE NEIGHBOUR: 'it returns false'. Refute it at one input. -/
def archiveKnownWrong : ChangeSpec := { name := "archiveKnown", fn := fun _ => fun
  | [] => { results := [.lit (.bool false)], args := [] }
  | _ => none }
def ArchiveKnownWrongFalsely : Prop := archiveKnownRow.holds Tryd.pinned (OpenSpec.ofChange archiveKnownWrong)

/- THE SECOND FORM. 'bulk': how many values and letters a reading holds, each counted each time it is reached (what is shared counts as often as it is met; a slice's spare places count too). A statement '..UptoSaid' is the law's where the arguments, and the package variables that the reading takes, are together of bulk at most 1048576: NARROWER than '..Said'. Prove '..Said' where nothing that the law and all that it calls make is longer than what came in: it says more and counts as full. Else prove '..UptoSaid'. A law counts once. -/
mutual
def uptoBulk {H : Type} : DataW H → Nat
  | .lit (.string bytes) => bytes.length + 1
  | .lit _ => 1
  | .nil => 1
  | .ptr d => uptoBulk d + 1
  | .slice elems spare => uptoBulkAll elems + uptoBulkAll spare + 1
  | .agg parts => uptoBulkAll parts + 1
  | .iface _ d => uptoBulk d + 1
  | .map entries => uptoBulkEntries entries + 1
  | .held _ => 1
def uptoBulkAll {H : Type} : List (DataW H) → Nat
  | [] => 0
  | d :: r => uptoBulk d + uptoBulkAll r
def uptoBulkEntries {H : Type} : List (Lit × DataW H) → Nat
  | [] => 0
  | x :: r => uptoBulkEntry x + uptoBulkEntries r
def uptoBulkEntry {H : Type} : Lit × DataW H → Nat
  | (.string bytes, d) => bytes.length + uptoBulk d + 1
  | (_, d) => uptoBulk d + 1
 end
def uptoSmall : (H : Type) → List (DataW H) → Bool := fun _ ds => decide (uptoBulkAll ds ≤ 1048576)
def OpenSpec.upto (s : _root_.Go.ChangeSpec) : _root_.Go.OpenSpec := { _root_.Go.OpenSpec.ofChange s with cond := some uptoSmall }

/-- 'mantlelaw26.ArchiveWrites', WHERE WHAT IT READS IS OF BULK AT MOST 1048576: true; the input reads as it did. -/
def archiveWritesUptoRow : OpenClaim := { program := "ytcpnnkkfndgpjaadoor", sum := "0ceb8ff584ba6f109502ccd18d0a1bcb200e709f14911c71e275b290f6b7eb0d", func := "mantle/mantlelaw26.ArchiveWrites", spec := "archiveWrites", inPlace := ["internal/bytealg.CountString", "internal/bytealg.IndexByteString", "internal/bytealg.IndexString", "internal/abi.NoEscape", "internal/bytealg.MakeNoZero"], unfollowed := true, recurses := true, named := ["unicode/utf8.first", "unicode/utf8.acceptRanges", "internal/bytealg.MaxLen"], apart := false, laid := [("unicode/utf8.acceptRanges", laid_unicode_utf8_acceptRanges), ("unicode/utf8.first", laid_unicode_utf8_first)], narrowed := true }
def ArchiveWritesUptoSaid : Prop := archiveWritesUptoRow.holds Tryd.pinned (OpenSpec.upto archiveWritesSpec)

/-- 'mantlelaw26.ArchiveBack', WHERE WHAT IT READS IS OF BULK AT MOST 1048576: true; the input reads as it did. -/
def archiveBackUptoRow : OpenClaim := { program := "ytcpnnkkfndgpjaadoor", sum := "0ceb8ff584ba6f109502ccd18d0a1bcb200e709f14911c71e275b290f6b7eb0d", func := "mantle/mantlelaw26.ArchiveBack", spec := "archiveBack", inPlace := ["internal/bytealg.CountString", "internal/bytealg.IndexByteString", "internal/bytealg.IndexString", "internal/abi.NoEscape", "internal/bytealg.MakeNoZero"], unfollowed := true, recurses := true, named := ["unicode/utf8.first", "unicode/utf8.acceptRanges", "internal/bytealg.MaxLen"], apart := false, laid := [("unicode/utf8.acceptRanges", laid_unicode_utf8_acceptRanges), ("unicode/utf8.first", laid_unicode_utf8_first)], narrowed := true }
def ArchiveBackUptoSaid : Prop := archiveBackUptoRow.holds Tryd.pinned (OpenSpec.upto archiveBackSpec)

/-- 'mantlelaw26.ArchivePieces', WHERE WHAT IT READS IS OF BULK AT MOST 1048576: true; the input reads as it did. -/
def archivePiecesUptoRow : OpenClaim := { program := "ytcpnnkkfndgpjaadoor", sum := "0ceb8ff584ba6f109502ccd18d0a1bcb200e709f14911c71e275b290f6b7eb0d", func := "mantle/mantlelaw26.ArchivePieces", spec := "archivePieces", inPlace := ["internal/bytealg.CountString", "internal/bytealg.IndexByteString", "internal/bytealg.IndexString", "internal/abi.NoEscape", "internal/bytealg.MakeNoZero"], unfollowed := true, recurses := true, named := ["unicode/utf8.first", "unicode/utf8.acceptRanges", "internal/bytealg.MaxLen"], apart := false, laid := [("unicode/utf8.acceptRanges", laid_unicode_utf8_acceptRanges), ("unicode/utf8.first", laid_unicode_utf8_first)], narrowed := true }
def ArchivePiecesUptoSaid : Prop := archivePiecesUptoRow.holds Tryd.pinned (OpenSpec.upto archivePiecesSpec)

/-- 'mantlelaw26.ArchiveTurned', WHERE WHAT IT READS IS OF BULK AT MOST 1048576: true; the input reads as it did. -/
def archiveTurnedUptoRow : OpenClaim := { program := "ytcpnnkkfndgpjaadoor", sum := "0ceb8ff584ba6f109502ccd18d0a1bcb200e709f14911c71e275b290f6b7eb0d", func := "mantle/mantlelaw26.ArchiveTurned", spec := "archiveTurned", inPlace := ["internal/bytealg.CountString", "internal/bytealg.IndexByteString", "internal/bytealg.IndexString", "internal/abi.NoEscape", "internal/bytealg.MakeNoZero"], unfollowed := true, recurses := true, named := ["unicode/utf8.first", "unicode/utf8.acceptRanges", "internal/bytealg.MaxLen"], apart := false, laid := [("unicode/utf8.acceptRanges", laid_unicode_utf8_acceptRanges), ("unicode/utf8.first", laid_unicode_utf8_first)], narrowed := true }
def ArchiveTurnedUptoSaid : Prop := archiveTurnedUptoRow.holds Tryd.pinned (OpenSpec.upto archiveTurnedSpec)

/-- 'mantlelaw26.ArchiveNil', WHERE WHAT IT READS IS OF BULK AT MOST 1048576: true; the input reads as it did. -/
def archiveNilUptoRow : OpenClaim := { program := "ytcpnnkkfndgpjaadoor", sum := "0ceb8ff584ba6f109502ccd18d0a1bcb200e709f14911c71e275b290f6b7eb0d", func := "mantle/mantlelaw26.ArchiveNil", spec := "archiveNil", inPlace := ["internal/bytealg.CountString", "internal/bytealg.IndexByteString", "internal/bytealg.IndexString", "internal/abi.NoEscape", "internal/bytealg.MakeNoZero"], unfollowed := true, recurses := true, named := ["unicode/utf8.first", "unicode/utf8.acceptRanges", "internal/bytealg.MaxLen"], apart := false, laid := [("unicode/utf8.acceptRanges", laid_unicode_utf8_acceptRanges), ("unicode/utf8.first", laid_unicode_utf8_first)], narrowed := true }
def ArchiveNilUptoSaid : Prop := archiveNilUptoRow.holds Tryd.pinned (OpenSpec.upto archiveNilSpec)

/-- 'mantlelaw26.ArchiveFeeds', WHERE WHAT IT READS IS OF BULK AT MOST 1048576: true; the input reads as it did. -/
def archiveFeedsUptoRow : OpenClaim := { program := "ytcpnnkkfndgpjaadoor", sum := "0ceb8ff584ba6f109502ccd18d0a1bcb200e709f14911c71e275b290f6b7eb0d", func := "mantle/mantlelaw26.ArchiveFeeds", spec := "archiveFeeds", inPlace := ["internal/bytealg.CountString", "internal/bytealg.IndexByteString", "internal/bytealg.IndexString", "internal/abi.NoEscape", "internal/bytealg.MakeNoZero"], unfollowed := true, recurses := true, named := ["unicode/utf8.first", "unicode/utf8.acceptRanges", "internal/bytealg.MaxLen"], apart := false, laid := [("unicode/utf8.acceptRanges", laid_unicode_utf8_acceptRanges), ("unicode/utf8.first", laid_unicode_utf8_first)], narrowed := true }
def ArchiveFeedsUptoSaid : Prop := archiveFeedsUptoRow.holds Tryd.pinned (OpenSpec.upto archiveFeedsSpec)

/-- 'mantlelaw26.ArchiveKnown', WHERE WHAT IT READS IS OF BULK AT MOST 1048576: true; the input reads as it did. -/
def archiveKnownUptoRow : OpenClaim := { program := "ytcpnnkkfndgpjaadoor", sum := "0ceb8ff584ba6f109502ccd18d0a1bcb200e709f14911c71e275b290f6b7eb0d", func := "mantle/mantlelaw26.ArchiveKnown", spec := "archiveKnown", inPlace := ["internal/bytealg.CountString", "internal/bytealg.IndexByteString", "internal/bytealg.IndexString", "internal/abi.NoEscape", "internal/bytealg.MakeNoZero"], unfollowed := true, recurses := true, named := ["unicode/utf8.first", "unicode/utf8.acceptRanges", "internal/bytealg.MaxLen"], apart := false, laid := [("unicode/utf8.acceptRanges", laid_unicode_utf8_acceptRanges), ("unicode/utf8.first", laid_unicode_utf8_first)], narrowed := true }
def ArchiveKnownUptoSaid : Prop := archiveKnownUptoRow.holds Tryd.pinned (OpenSpec.upto archiveKnownSpec)

end Rows
end Go.Proofs.YtcpnnkkfndgpjaaDoor
