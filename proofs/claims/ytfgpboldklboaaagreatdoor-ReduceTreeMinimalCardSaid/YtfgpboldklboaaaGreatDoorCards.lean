/-
  DERIVED. GIVEN WITH THE SEED: THE CARDS: each row of YtfgpboldklboaaaGreatDoorRows.lean that lists a variable, with what it lists TIED to the program's text (the seventh form; the later family's looks); each row that meets fmt, with fmt's text TOLD by the authors' own Lean function (tested against real Go, not proved from fmt's source: count such statements apart). THE CARD IS WHAT COUNTS. Prove the row's statement (the work); the ties are given (YtfgpboldklboaaaGreatDoorTie.lean); close each card by the builder's one call (the guide's Derived/Test/ToyasCard.lean, 'card_holds'). Laid BY PROGRAM, IN A SANDBOX (cutbox-door.mjs). By AI agents, Wed Nov 11 2026. No macro, syntax, notation, axiom, sorry.
-/
import Derived.Test.YtfgpboldklboaaaGreatDoorRows
import GoSem.ClaimSeven
namespace Go.Proofs.YtfgpboldklboaaaGreatDoor
namespace Rows

/-- THE TIED CARD OF 'sleuthlaw06.ReduceTreeMinimal'. -/
def reduceTreeMinimalCard : Claim7 := { stood := { row := reduceTreeMinimalRow, standIns := [], harness := (true, "1df5eabd4be9a0853ebcfed404ff213b41f367a937b7a698d4b2fbff8584c325"), looks := true }, kinds := [], alts := [], laidByText := true, laidKinds := [.data, .data, .data], laidTests := true, laidLooks := .later }
def ReduceTreeMinimalCardSaid : Prop := Claim7.holds Tryz.pinned (.plain (OpenSpec.ofChange reduceTreeMinimalSpec)) reduceTreeMinimalCard

/-- THE SECOND FORM's CARD OF 'sleuthlaw06.ReduceTreeMinimal'. -/
def reduceTreeMinimalUptoCard : Claim7 := { stood := { row := reduceTreeMinimalUptoRow, standIns := [], harness := (true, "1df5eabd4be9a0853ebcfed404ff213b41f367a937b7a698d4b2fbff8584c325"), looks := true }, kinds := [], alts := [], laidByText := true, laidKinds := [.data, .data, .data], laidTests := true, laidLooks := .later }
def ReduceTreeMinimalUptoCardSaid : Prop := Claim7.holds Tryz.pinned (.plain (OpenSpec.upto reduceTreeMinimalSpec)) reduceTreeMinimalUptoCard
end Rows
end Go.Proofs.YtfgpboldklboaaaGreatDoor
