/-
  DERIVED. GIVEN WITH THE SEED: THE CARDS: each row of YtcpnnkkfndgpjaaDoorRows.lean that lists a variable, with what it lists TIED to the program's text (the seventh form; the later family's looks); each row that meets fmt, with fmt's text TOLD by the authors' own Lean function (tested against real Go, not proved from fmt's source: count such statements apart). THE CARD IS WHAT COUNTS. Prove the row's statement (the work); the ties are given (YtcpnnkkfndgpjaaDoorTie.lean); close each card by the builder's one call (the guide's Derived/Test/ToyasCard.lean, 'card_holds'). Laid BY PROGRAM, IN A SANDBOX (cutbox-door.mjs). By AI agents, Wed Nov 11 2026. No macro, syntax, notation, axiom, sorry.
-/
import Derived.Test.YtcpnnkkfndgpjaaDoorRows
import GoSem.ClaimSeven
namespace Go.Proofs.YtcpnnkkfndgpjaaDoor
namespace Rows

/-- THE TIED CARD OF 'mantlelaw26.ArchiveWrites'. -/
def archiveWritesCard : Claim7 := { stood := { row := archiveWritesRow, standIns := [], harness := (true, "98a7a9fe79c320b292dc62ee164c419cc46611b03bb23d1a61db401cae450737"), looks := true }, kinds := [], alts := [], laidByText := true, laidKinds := [.data, .pinned], laidTests := true, laidLooks := .later }
def ArchiveWritesCardSaid : Prop := Claim7.holds Tryd.pinned (.plain (OpenSpec.ofChange archiveWritesSpec)) archiveWritesCard

/-- THE TIED CARD OF 'mantlelaw26.ArchiveBack'. -/
def archiveBackCard : Claim7 := { stood := { row := archiveBackRow, standIns := [], harness := (true, "98a7a9fe79c320b292dc62ee164c419cc46611b03bb23d1a61db401cae450737"), looks := true }, kinds := [], alts := [], laidByText := true, laidKinds := [.data, .pinned], laidTests := true, laidLooks := .later }
def ArchiveBackCardSaid : Prop := Claim7.holds Tryd.pinned (.plain (OpenSpec.ofChange archiveBackSpec)) archiveBackCard

/-- THE TIED CARD OF 'mantlelaw26.ArchivePieces'. -/
def archivePiecesCard : Claim7 := { stood := { row := archivePiecesRow, standIns := [], harness := (true, "98a7a9fe79c320b292dc62ee164c419cc46611b03bb23d1a61db401cae450737"), looks := true }, kinds := [], alts := [], laidByText := true, laidKinds := [.data, .pinned], laidTests := true, laidLooks := .later }
def ArchivePiecesCardSaid : Prop := Claim7.holds Tryd.pinned (.plain (OpenSpec.ofChange archivePiecesSpec)) archivePiecesCard

/-- THE TIED CARD OF 'mantlelaw26.ArchiveTurned'. -/
def archiveTurnedCard : Claim7 := { stood := { row := archiveTurnedRow, standIns := [], harness := (true, "98a7a9fe79c320b292dc62ee164c419cc46611b03bb23d1a61db401cae450737"), looks := true }, kinds := [], alts := [], laidByText := true, laidKinds := [.data, .pinned], laidTests := true, laidLooks := .later }
def ArchiveTurnedCardSaid : Prop := Claim7.holds Tryd.pinned (.plain (OpenSpec.ofChange archiveTurnedSpec)) archiveTurnedCard

/-- THE TIED CARD OF 'mantlelaw26.ArchiveNil'. -/
def archiveNilCard : Claim7 := { stood := { row := archiveNilRow, standIns := [], harness := (true, "98a7a9fe79c320b292dc62ee164c419cc46611b03bb23d1a61db401cae450737"), looks := true }, kinds := [], alts := [], laidByText := true, laidKinds := [.data, .pinned], laidTests := true, laidLooks := .later }
def ArchiveNilCardSaid : Prop := Claim7.holds Tryd.pinned (.plain (OpenSpec.ofChange archiveNilSpec)) archiveNilCard

/-- THE TIED CARD OF 'mantlelaw26.ArchiveFeeds'. -/
def archiveFeedsCard : Claim7 := { stood := { row := archiveFeedsRow, standIns := [], harness := (true, "98a7a9fe79c320b292dc62ee164c419cc46611b03bb23d1a61db401cae450737"), looks := true }, kinds := [], alts := [], laidByText := true, laidKinds := [.data, .pinned], laidTests := true, laidLooks := .later }
def ArchiveFeedsCardSaid : Prop := Claim7.holds Tryd.pinned (.plain (OpenSpec.ofChange archiveFeedsSpec)) archiveFeedsCard

/-- THE TIED CARD OF 'mantlelaw26.ArchiveKnown'. -/
def archiveKnownCard : Claim7 := { stood := { row := archiveKnownRow, standIns := [], harness := (true, "98a7a9fe79c320b292dc62ee164c419cc46611b03bb23d1a61db401cae450737"), looks := true }, kinds := [], alts := [], laidByText := true, laidKinds := [.data, .pinned], laidTests := true, laidLooks := .later }
def ArchiveKnownCardSaid : Prop := Claim7.holds Tryd.pinned (.plain (OpenSpec.ofChange archiveKnownSpec)) archiveKnownCard

/-- THE SECOND FORM's CARD OF 'mantlelaw26.ArchiveWrites'. -/
def archiveWritesUptoCard : Claim7 := { stood := { row := archiveWritesUptoRow, standIns := [], harness := (true, "98a7a9fe79c320b292dc62ee164c419cc46611b03bb23d1a61db401cae450737"), looks := true }, kinds := [], alts := [], laidByText := true, laidKinds := [.data, .pinned], laidTests := true, laidLooks := .later }
def ArchiveWritesUptoCardSaid : Prop := Claim7.holds Tryd.pinned (.plain (OpenSpec.upto archiveWritesSpec)) archiveWritesUptoCard

/-- THE SECOND FORM's CARD OF 'mantlelaw26.ArchiveBack'. -/
def archiveBackUptoCard : Claim7 := { stood := { row := archiveBackUptoRow, standIns := [], harness := (true, "98a7a9fe79c320b292dc62ee164c419cc46611b03bb23d1a61db401cae450737"), looks := true }, kinds := [], alts := [], laidByText := true, laidKinds := [.data, .pinned], laidTests := true, laidLooks := .later }
def ArchiveBackUptoCardSaid : Prop := Claim7.holds Tryd.pinned (.plain (OpenSpec.upto archiveBackSpec)) archiveBackUptoCard

/-- THE SECOND FORM's CARD OF 'mantlelaw26.ArchivePieces'. -/
def archivePiecesUptoCard : Claim7 := { stood := { row := archivePiecesUptoRow, standIns := [], harness := (true, "98a7a9fe79c320b292dc62ee164c419cc46611b03bb23d1a61db401cae450737"), looks := true }, kinds := [], alts := [], laidByText := true, laidKinds := [.data, .pinned], laidTests := true, laidLooks := .later }
def ArchivePiecesUptoCardSaid : Prop := Claim7.holds Tryd.pinned (.plain (OpenSpec.upto archivePiecesSpec)) archivePiecesUptoCard

/-- THE SECOND FORM's CARD OF 'mantlelaw26.ArchiveTurned'. -/
def archiveTurnedUptoCard : Claim7 := { stood := { row := archiveTurnedUptoRow, standIns := [], harness := (true, "98a7a9fe79c320b292dc62ee164c419cc46611b03bb23d1a61db401cae450737"), looks := true }, kinds := [], alts := [], laidByText := true, laidKinds := [.data, .pinned], laidTests := true, laidLooks := .later }
def ArchiveTurnedUptoCardSaid : Prop := Claim7.holds Tryd.pinned (.plain (OpenSpec.upto archiveTurnedSpec)) archiveTurnedUptoCard

/-- THE SECOND FORM's CARD OF 'mantlelaw26.ArchiveNil'. -/
def archiveNilUptoCard : Claim7 := { stood := { row := archiveNilUptoRow, standIns := [], harness := (true, "98a7a9fe79c320b292dc62ee164c419cc46611b03bb23d1a61db401cae450737"), looks := true }, kinds := [], alts := [], laidByText := true, laidKinds := [.data, .pinned], laidTests := true, laidLooks := .later }
def ArchiveNilUptoCardSaid : Prop := Claim7.holds Tryd.pinned (.plain (OpenSpec.upto archiveNilSpec)) archiveNilUptoCard

/-- THE SECOND FORM's CARD OF 'mantlelaw26.ArchiveFeeds'. -/
def archiveFeedsUptoCard : Claim7 := { stood := { row := archiveFeedsUptoRow, standIns := [], harness := (true, "98a7a9fe79c320b292dc62ee164c419cc46611b03bb23d1a61db401cae450737"), looks := true }, kinds := [], alts := [], laidByText := true, laidKinds := [.data, .pinned], laidTests := true, laidLooks := .later }
def ArchiveFeedsUptoCardSaid : Prop := Claim7.holds Tryd.pinned (.plain (OpenSpec.upto archiveFeedsSpec)) archiveFeedsUptoCard

/-- THE SECOND FORM's CARD OF 'mantlelaw26.ArchiveKnown'. -/
def archiveKnownUptoCard : Claim7 := { stood := { row := archiveKnownUptoRow, standIns := [], harness := (true, "98a7a9fe79c320b292dc62ee164c419cc46611b03bb23d1a61db401cae450737"), looks := true }, kinds := [], alts := [], laidByText := true, laidKinds := [.data, .pinned], laidTests := true, laidLooks := .later }
def ArchiveKnownUptoCardSaid : Prop := Claim7.holds Tryd.pinned (.plain (OpenSpec.upto archiveKnownSpec)) archiveKnownUptoCard
end Rows
end Go.Proofs.YtcpnnkkfndgpjaaDoor
