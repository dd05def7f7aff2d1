/-
  DERIVED. GIVEN WITH THE SEED: THE CARDS: each row of YtbicaejpckcfbaaDoorRows.lean that lists a variable, with what it lists TIED to the program's text (the seventh form; the later family's looks); each row that meets fmt, with fmt's text TOLD by the authors' own Lean function (tested against real Go, not proved from fmt's source: count such statements apart). THE CARD IS WHAT COUNTS. Prove the row's statement (the work); the ties are given (YtbicaejpckcfbaaDoorTie.lean); close each card by the builder's one call (the guide's Derived/Test/ToyasCard.lean, 'card_holds'). Laid BY PROGRAM, IN A SANDBOX (cutbox-door.mjs). By AI agents, Wed Nov 11 2026. No macro, syntax, notation, axiom, sorry.
-/
import Derived.Test.YtbicaejpckcfbaaDoorRows
import GoSem.ClaimSeven
namespace Go.Proofs.YtbicaejpckcfbaaDoor
namespace Rows

/-- THE TIED CARD OF 'mantlelaw02.CapsBack'. -/
def capsBackCard : Claim7 := { stood := { row := capsBackRow, standIns := [], harness := (true, "79877cac63b4ec748a2db37289c497fb49916f3c25463343b12b2321484eee57"), looks := true }, kinds := [], alts := [], laidByText := true, laidKinds := [.data, .pinned], laidTests := true, laidLooks := .later }
def CapsBackCardSaid : Prop := Claim7.holds Tryd.pinned (.plain (OpenSpec.ofChange capsBackSpec)) capsBackCard

/-- THE TIED CARD OF 'mantlelaw02.CapsTexts'. -/
def capsTextsCard : Claim7 := { stood := { row := capsTextsRow, standIns := [], harness := (true, "79877cac63b4ec748a2db37289c497fb49916f3c25463343b12b2321484eee57"), looks := true }, kinds := [], alts := [], laidByText := true, laidKinds := [.data, .handle, .pinned], laidTests := true, laidLooks := .later }
def CapsTextsCardSaid : Prop := Claim7.holds Tryd.pinned (.plain (OpenSpec.ofChange capsTextsSpec)) capsTextsCard

/-- THE TIED CARD OF 'mantlelaw02.CapsKnown'. -/
def capsKnownCard : Claim7 := { stood := { row := capsKnownRow, standIns := [], harness := (true, "79877cac63b4ec748a2db37289c497fb49916f3c25463343b12b2321484eee57"), looks := true }, kinds := [], alts := [], laidByText := true, laidKinds := [.data, .handle, .pinned], laidTests := true, laidLooks := .later }
def CapsKnownCardSaid : Prop := Claim7.holds Tryd.pinned (.plain (OpenSpec.ofChange capsKnownSpec)) capsKnownCard

/-- THE SECOND FORM's CARD OF 'mantlelaw02.CapsBack'. -/
def capsBackUptoCard : Claim7 := { stood := { row := capsBackUptoRow, standIns := [], harness := (true, "79877cac63b4ec748a2db37289c497fb49916f3c25463343b12b2321484eee57"), looks := true }, kinds := [], alts := [], laidByText := true, laidKinds := [.data, .pinned], laidTests := true, laidLooks := .later }
def CapsBackUptoCardSaid : Prop := Claim7.holds Tryd.pinned (.plain (OpenSpec.upto capsBackSpec)) capsBackUptoCard

/-- THE SECOND FORM's CARD OF 'mantlelaw02.CapsTexts'. -/
def capsTextsUptoCard : Claim7 := { stood := { row := capsTextsUptoRow, standIns := [], harness := (true, "79877cac63b4ec748a2db37289c497fb49916f3c25463343b12b2321484eee57"), looks := true }, kinds := [], alts := [], laidByText := true, laidKinds := [.data, .handle, .pinned], laidTests := true, laidLooks := .later }
def CapsTextsUptoCardSaid : Prop := Claim7.holds Tryd.pinned (.plain (OpenSpec.upto capsTextsSpec)) capsTextsUptoCard

/-- THE SECOND FORM's CARD OF 'mantlelaw02.CapsKnown'. -/
def capsKnownUptoCard : Claim7 := { stood := { row := capsKnownUptoRow, standIns := [], harness := (true, "79877cac63b4ec748a2db37289c497fb49916f3c25463343b12b2321484eee57"), looks := true }, kinds := [], alts := [], laidByText := true, laidKinds := [.data, .handle, .pinned], laidTests := true, laidLooks := .later }
def CapsKnownUptoCardSaid : Prop := Claim7.holds Tryd.pinned (.plain (OpenSpec.upto capsKnownSpec)) capsKnownUptoCard
end Rows
end Go.Proofs.YtbicaejpckcfbaaDoor
