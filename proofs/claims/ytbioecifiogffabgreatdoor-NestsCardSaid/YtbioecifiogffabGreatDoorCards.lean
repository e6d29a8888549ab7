/-
  DERIVED. GIVEN WITH THE SEED: THE CARDS: each row of YtbioecifiogffabGreatDoorRows.lean that lists a variable, with what it lists TIED to the program's text (the seventh form; the later family's looks); each row that meets fmt, with fmt's text TOLD by the authors' own Lean function (tested against real Go, not proved from fmt's source: count such statements apart). THE CARD IS WHAT COUNTS. Prove the row's statement (the work); the ties are given (YtbioecifiogffabGreatDoorTie.lean); close each card by the builder's one call (the guide's Derived/Test/ToyasCard.lean, 'card_holds'). Laid BY PROGRAM, IN A SANDBOX (cutbox-door.mjs). By AI agents, Wed Nov 11 2026. No macro, syntax, notation, axiom, sorry.
-/
import Derived.Test.YtbioecifiogffabGreatDoorRows
import GoSem.ClaimSeven
namespace Go.Proofs.YtbioecifiogffabGreatDoor
namespace Rows

/-- THE TIED CARD OF 'prosekeep.Nests'. -/
def nestsCard : Claim7 := { stood := { row := nestsRow, standIns := [], harness := (true, "55939ba0bc221c42adb7eba97969eec933e37947744c7382d56198e7c0a9d2d9"), looks := true }, kinds := [], alts := [], laidByText := true, laidKinds := [.data, .data, .data, .data, .handle, .sentinel, .sentinel, .sentinel, .pinned], laidTests := true, laidLooks := .later }
def NestsCardSaid : Prop := Claim7.holds Tryz.pinned (.plain (OpenSpec.ofChange nestsSpec)) nestsCard

/-- THE SECOND FORM's CARD OF 'prosekeep.Nests'. -/
def nestsUptoCard : Claim7 := { stood := { row := nestsUptoRow, standIns := [], harness := (true, "55939ba0bc221c42adb7eba97969eec933e37947744c7382d56198e7c0a9d2d9"), looks := true }, kinds := [], alts := [], laidByText := true, laidKinds := [.data, .data, .data, .data, .handle, .sentinel, .sentinel, .sentinel, .pinned], laidTests := true, laidLooks := .later }
def NestsUptoCardSaid : Prop := Claim7.holds Tryz.pinned (.plain (OpenSpec.upto nestsSpec)) nestsUptoCard
end Rows
end Go.Proofs.YtbioecifiogffabGreatDoor
