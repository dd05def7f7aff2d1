/-
  No cell of these rows narrows 'for every input' (looked for: loops, veiled, ifaces, maps, wideKeys, modest, calm, conditions, laid).
  DERIVED. THE GIVEN ROWS OF THIS SEAT. 5 by the template 'for every input the law returns true; each argument reads behind the call as it read before'; 0 by the template 'total and deterministic' (their statements: YtbicaejpckcfbaaTotals.lean).
  GIVEN WITH THE SEED: the statements are not yours to turn. If you find one false, say at which input.
  Laid BY PROGRAM, IN A SANDBOX (cutbox-rows.mjs): the forced cells as the released guide's own fill.sh prints them over the translation 3b3b902110901c5e… (all of the seat's roots in one cut). By AI agents, Wed Nov 11 2026. No macro, syntax, notation, axiom, sorry.
-/
import Derived.Test.YtbicaejpckcfbaaChecked
import GoSem.Claim
import GoSem.ClaimJoined
import GoSem.ClaimMapViews
import Derived.JoinedTies
import Derived.KernelRfl
namespace Go.Proofs.Ytbicaejpckcfbaa
/- THE CELL 'sum', in the pinned program and in every row, IS THE sha256 OF THE DUMP (.gsa) THAT YtbicaejpckcfbaaProg.lean LOADS. Nothing in Lean hashes anything: it is a label: what it is worth is what the hold of that sum in a sandbox is worth. -/
noncomputable def Try.pinned : Pinned := { name := "ytbicaejpckcfbaa", sum := "3b3b902110901c5ed6220af54f7dc554f008555f403cb14da114af4dd96f8e9d", checked := Try.checked }
namespace Rows
def none {H : Type} : Left H := { results := [], args := [] }

/-- 'mantlelaw02.CapsOver': WHATEVER THE INPUT: true; the input reads as it did. -/
def capsOverSpec : ChangeSpec := { name := "capsOver", fn := fun _ => fun
  | [d1, d2] => { results := [.lit (.bool true)], args := [d1, d2] }
  | _ => none }
def capsOverRow : OpenClaim := { program := "ytbicaejpckcfbaa", sum := "3b3b902110901c5ed6220af54f7dc554f008555f403cb14da114af4dd96f8e9d", func := "mantle/mantlelaw02.CapsOver", spec := "capsOver", inPlace := ["internal/abi.NoEscape", "internal/bytealg.MakeNoZero"], unfollowed := true, recurses := true, apart := false }
def CapsOverSaid : Prop := capsOverRow.holds Try.pinned (OpenSpec.ofChange capsOverSpec)

/-- ITS FALSE NEIGHBOUR: 'it returns false'. Refute it at one input. -/
def capsOverWrong : ChangeSpec := { name := "capsOver", fn := fun _ => fun
  | [d1, d2] => { results := [.lit (.bool false)], args := [d1, d2] }
  | _ => none }
def CapsOverWrongFalsely : Prop := capsOverRow.holds Try.pinned (OpenSpec.ofChange capsOverWrong)

/-- 'mantlelaw02.CapsSets': WHATEVER THE INPUT: true; the input reads as it did. -/
def capsSetsSpec : ChangeSpec := { name := "capsSets", fn := fun _ => fun
  | [d1, d2] => { results := [.lit (.bool true)], args := [d1, d2] }
  | _ => none }
def capsSetsRow : OpenClaim := { program := "ytbicaejpckcfbaa", sum := "3b3b902110901c5ed6220af54f7dc554f008555f403cb14da114af4dd96f8e9d", func := "mantle/mantlelaw02.CapsSets", spec := "capsSets", inPlace := ["internal/abi.NoEscape", "internal/bytealg.MakeNoZero"], unfollowed := true, recurses := true, apart := false }
def CapsSetsSaid : Prop := capsSetsRow.holds Try.pinned (OpenSpec.ofChange capsSetsSpec)

/-- ITS FALSE NEIGHBOUR: 'it returns false'. Refute it at one input. -/
def capsSetsWrong : ChangeSpec := { name := "capsSets", fn := fun _ => fun
  | [d1, d2] => { results := [.lit (.bool false)], args := [d1, d2] }
  | _ => none }
def CapsSetsWrongFalsely : Prop := capsSetsRow.holds Try.pinned (OpenSpec.ofChange capsSetsWrong)

/-- 'mantlelaw02.CapsStack': WHATEVER THE INPUT: true; the input reads as it did. -/
def capsStackSpec : ChangeSpec := { name := "capsStack", fn := fun _ => fun
  | [d1, d2] => { results := [.lit (.bool true)], args := [d1, d2] }
  | _ => none }
def capsStackRow : OpenClaim := { program := "ytbicaejpckcfbaa", sum := "3b3b902110901c5ed6220af54f7dc554f008555f403cb14da114af4dd96f8e9d", func := "mantle/mantlelaw02.CapsStack", spec := "capsStack", inPlace := ["internal/abi.NoEscape", "internal/bytealg.MakeNoZero"], unfollowed := true, recurses := true, apart := false }
def CapsStackSaid : Prop := capsStackRow.holds Try.pinned (OpenSpec.ofChange capsStackSpec)

/-- ITS FALSE NEIGHBOUR: 'it returns false'. Refute it at one input. -/
def capsStackWrong : ChangeSpec := { name := "capsStack", fn := fun _ => fun
  | [d1, d2] => { results := [.lit (.bool false)], args := [d1, d2] }
  | _ => none }
def CapsStackWrongFalsely : Prop := capsStackRow.holds Try.pinned (OpenSpec.ofChange capsStackWrong)

/-- 'mantlelaw02.CapsFolds': WHATEVER THE INPUT: true; the input reads as it did. -/
def capsFoldsSpec : ChangeSpec := { name := "capsFolds", fn := fun _ => fun
  | [d1, d2, d3] => { results := [.lit (.bool true)], args := [d1, d2, d3] }
  | _ => none }
def capsFoldsRow : OpenClaim := { program := "ytbicaejpckcfbaa", sum := "3b3b902110901c5ed6220af54f7dc554f008555f403cb14da114af4dd96f8e9d", func := "mantle/mantlelaw02.CapsFolds", spec := "capsFolds", inPlace := ["internal/abi.NoEscape", "internal/bytealg.MakeNoZero"], unfollowed := true, recurses := true, apart := false }
def CapsFoldsSaid : Prop := capsFoldsRow.holds Try.pinned (OpenSpec.ofChange capsFoldsSpec)

/-- ITS FALSE NEIGHBOUR: 'it returns false'. Refute it at one input. -/
def capsFoldsWrong : ChangeSpec := { name := "capsFolds", fn := fun _ => fun
  | [d1, d2, d3] => { results := [.lit (.bool false)], args := [d1, d2, d3] }
  | _ => none }
def CapsFoldsWrongFalsely : Prop := capsFoldsRow.holds Try.pinned (OpenSpec.ofChange capsFoldsWrong)

/-- 'mantlelaw02.CapsRises': WHATEVER THE INPUT: true; the input reads as it did. -/
def capsRisesSpec : ChangeSpec := { name := "capsRises", fn := fun _ => fun
  | [d1, d2, d3, d4, d5] => { results := [.lit (.bool true)], args := [d1, d2, d3, d4, d5] }
  | _ => none }
def capsRisesRow : OpenClaim := { program := "ytbicaejpckcfbaa", sum := "3b3b902110901c5ed6220af54f7dc554f008555f403cb14da114af4dd96f8e9d", func := "mantle/mantlelaw02.CapsRises", spec := "capsRises", inPlace := ["internal/abi.NoEscape", "internal/bytealg.MakeNoZero"], unfollowed := true, recurses := true, apart := false }
def CapsRisesSaid : Prop := capsRisesRow.holds Try.pinned (OpenSpec.ofChange capsRisesSpec)

/-- ITS FALSE NEIGHBOUR: 'it returns false'. Refute it at one input. -/
def capsRisesWrong : ChangeSpec := { name := "capsRises", fn := fun _ => fun
  | [d1, d2, d3, d4, d5] => { results := [.lit (.bool false)], args := [d1, d2, d3, d4, d5] }
  | _ => none }
def CapsRisesWrongFalsely : Prop := capsRisesRow.holds Try.pinned (OpenSpec.ofChange capsRisesWrong)

/- THE SECOND FORM. 'bulk': how many values and letters a reading holds, each counted each time it is reached (what is shared counts as often as it is met; a slice's spare places count too). A statement '..UptoSaid' is the law's where the arguments, and the package variables that the reading takes, are together of bulk at most 1048576: NARROWER than '..Said'. Prove '..Said' where nothing that the law and all that it calls make is longer than what came in: it says more and counts as full. Else prove '..UptoSaid'. A law counts once. -/
mutual
def uptoBulk {H : Type} : DataW H → Nat
  | .lit (.string bytes) => bytes.length + 1
  | .lit _ => 1
  | .nil => 1
  | .ptr d => uptoBulk d + 1
  | .slice elems spare => uptoBulkAll elems + uptoBulkAll spare + 1
  | .agg parts => uptoBulkAll parts + 1
  | .iface _ d => uptoBulk d + 1
  | .map entries => uptoBulkEntries entries + 1
  | .held _ => 1
def uptoBulkAll {H : Type} : List (DataW H) → Nat
  | [] => 0
  | d :: r => uptoBulk d + uptoBulkAll r
def uptoBulkEntries {H : Type} : List (Lit × DataW H) → Nat
  | [] => 0
  | x :: r => uptoBulkEntry x + uptoBulkEntries r
def uptoBulkEntry {H : Type} : Lit × DataW H → Nat
  | (.string bytes, d) => bytes.length + uptoBulk d + 1
  | (_, d) => uptoBulk d + 1
 end
def uptoSmall : (H : Type) → List (DataW H) → Bool := fun _ ds => decide (uptoBulkAll ds ≤ 1048576)
def OpenSpec.upto (s : _root_.Go.ChangeSpec) : _root_.Go.OpenSpec := { _root_.Go.OpenSpec.ofChange s with cond := some uptoSmall }

/-- 'mantlelaw02.CapsOver', WHERE WHAT IT READS IS OF BULK AT MOST 1048576: true; the input reads as it did. -/
def capsOverUptoRow : OpenClaim := { program := "ytbicaejpckcfbaa", sum := "3b3b902110901c5ed6220af54f7dc554f008555f403cb14da114af4dd96f8e9d", func := "mantle/mantlelaw02.CapsOver", spec := "capsOver", inPlace := ["internal/abi.NoEscape", "internal/bytealg.MakeNoZero"], unfollowed := true, recurses := true, apart := false, narrowed := true }
def CapsOverUptoSaid : Prop := capsOverUptoRow.holds Try.pinned (OpenSpec.upto capsOverSpec)

/-- 'mantlelaw02.CapsSets', WHERE WHAT IT READS IS OF BULK AT MOST 1048576: true; the input reads as it did. -/
def capsSetsUptoRow : OpenClaim := { program := "ytbicaejpckcfbaa", sum := "3b3b902110901c5ed6220af54f7dc554f008555f403cb14da114af4dd96f8e9d", func := "mantle/mantlelaw02.CapsSets", spec := "capsSets", inPlace := ["internal/abi.NoEscape", "internal/bytealg.MakeNoZero"], unfollowed := true, recurses := true, apart := false, narrowed := true }
def CapsSetsUptoSaid : Prop := capsSetsUptoRow.holds Try.pinned (OpenSpec.upto capsSetsSpec)

/-- 'mantlelaw02.CapsStack', WHERE WHAT IT READS IS OF BULK AT MOST 1048576: true; the input reads as it did. -/
def capsStackUptoRow : OpenClaim := { program := "ytbicaejpckcfbaa", sum := "3b3b902110901c5ed6220af54f7dc554f008555f403cb14da114af4dd96f8e9d", func := "mantle/mantlelaw02.CapsStack", spec := "capsStack", inPlace := ["internal/abi.NoEscape", "internal/bytealg.MakeNoZero"], unfollowed := true, recurses := true, apart := false, narrowed := true }
def CapsStackUptoSaid : Prop := capsStackUptoRow.holds Try.pinned (OpenSpec.upto capsStackSpec)

/-- 'mantlelaw02.CapsFolds', WHERE WHAT IT READS IS OF BULK AT MOST 1048576: true; the input reads as it did. -/
def capsFoldsUptoRow : OpenClaim := { program := "ytbicaejpckcfbaa", sum := "3b3b902110901c5ed6220af54f7dc554f008555f403cb14da114af4dd96f8e9d", func := "mantle/mantlelaw02.CapsFolds", spec := "capsFolds", inPlace := ["internal/abi.NoEscape", "internal/bytealg.MakeNoZero"], unfollowed := true, recurses := true, apart := false, narrowed := true }
def CapsFoldsUptoSaid : Prop := capsFoldsUptoRow.holds Try.pinned (OpenSpec.upto capsFoldsSpec)

/-- 'mantlelaw02.CapsRises', WHERE WHAT IT READS IS OF BULK AT MOST 1048576: true; the input reads as it did. -/
def capsRisesUptoRow : OpenClaim := { program := "ytbicaejpckcfbaa", sum := "3b3b902110901c5ed6220af54f7dc554f008555f403cb14da114af4dd96f8e9d", func := "mantle/mantlelaw02.CapsRises", spec := "capsRises", inPlace := ["internal/abi.NoEscape", "internal/bytealg.MakeNoZero"], unfollowed := true, recurses := true, apart := false, narrowed := true }
def CapsRisesUptoSaid : Prop := capsRisesUptoRow.holds Try.pinned (OpenSpec.upto capsRisesSpec)

end Rows
end Go.Proofs.Ytbicaejpckcfbaa
