/-
  DERIVED. GIVEN WITH THE SEED: THE CARDS: each row of YtbioecifiogffaaGreatDoorRows.lean that lists a variable, with what it lists TIED to the program's text (the seventh form; the later family's looks); each row that meets fmt, with fmt's text TOLD by the authors' own Lean function (tested against real Go, not proved from fmt's source: count such statements apart). THE CARD IS WHAT COUNTS. Prove the row's statement (the work); the ties are given (YtbioecifiogffaaGreatDoorTie.lean); close each card by the builder's one call (the guide's Derived/Test/ToyasCard.lean, 'card_holds'). Laid BY PROGRAM, IN A SANDBOX (cutbox-door.mjs). By AI agents, Wed Nov 11 2026. No macro, syntax, notation, axiom, sorry.
-/
import Derived.Test.YtbioecifiogffaaGreatDoorRows
import GoSem.ClaimSeven
namespace Go.Proofs.YtbioecifiogffaaGreatDoor
namespace Rows

/-- THE TIED CARD OF 'prosekeep.Tame'. -/
def tameCard : Claim7 := { stood := { row := tameRow, standIns := [], harness := (true, "e0f6c253858081f32d5ba056a0f3de40dc5c0873d98be27ff36a4f02d6a518cb"), looks := true }, kinds := [], alts := [], laidByText := true, laidKinds := [.data, .data, .data, .data, .handle, .sentinel, .sentinel, .sentinel, .pinned], laidTests := true, laidLooks := .later }
def TameCardSaid : Prop := Claim7.holds Tryz.pinned (.plain (OpenSpec.ofChange tameSpec)) tameCard

/-- THE TIED CARD OF 'proselaw.All'. -/
def allCard : Claim7 := { stood := { row := allRow, standIns := [], harness := (true, "e0f6c253858081f32d5ba056a0f3de40dc5c0873d98be27ff36a4f02d6a518cb"), looks := true }, kinds := [], alts := [], laidByText := true, laidKinds := [.data, .data, .data, .data, .handle, .sentinel, .sentinel, .sentinel, .pinned], laidTests := true, laidLooks := .later }
def AllCardSaid : Prop := Claim7.holds Tryz.pinned (.plain (OpenSpec.ofChange allSpec)) allCard

/-- THE TIED CARD OF 'proselaw.Pulls'. -/
def pullsCard : Claim7 := { stood := { row := pullsRow, standIns := [], harness := (true, "e0f6c253858081f32d5ba056a0f3de40dc5c0873d98be27ff36a4f02d6a518cb"), looks := true }, kinds := [], alts := [], laidByText := true, laidKinds := [.data, .handle, .sentinel, .sentinel, .sentinel, .pinned], laidTests := true, laidLooks := .later }
def PullsCardSaid : Prop := Claim7.holds Tryz.pinned (.plain (OpenSpec.ofChange pullsSpec)) pullsCard

/-- THE TIED CARD OF 'proselaw.Writes'. -/
def writesCard : Claim7 := { stood := { row := writesRow, standIns := [], harness := (true, "e0f6c253858081f32d5ba056a0f3de40dc5c0873d98be27ff36a4f02d6a518cb"), looks := true }, kinds := [], alts := [], laidByText := true, laidKinds := [.data, .data, .data, .data, .handle, .sentinel, .sentinel, .sentinel, .pinned], laidTests := true, laidLooks := .later }
def WritesCardSaid : Prop := Claim7.holds Tryz.pinned (.plain (OpenSpec.ofChange writesSpec)) writesCard

/-- THE TIED CARD OF 'proselaw.Counted'. -/
def countedCard : Claim7 := { stood := { row := countedRow, standIns := [], harness := (true, "e0f6c253858081f32d5ba056a0f3de40dc5c0873d98be27ff36a4f02d6a518cb"), looks := true }, kinds := [], alts := [], laidByText := true, laidKinds := [.data, .data, .data, .data, .handle, .sentinel, .sentinel, .sentinel, .pinned], laidTests := true, laidLooks := .later }
def CountedCardSaid : Prop := Claim7.holds Tryz.pinned (.plain (OpenSpec.ofChange countedSpec)) countedCard

/-- THE TIED CARD OF 'prosekeep.Taken'. -/
def takenCard : Claim7 := { stood := { row := takenRow, standIns := [], harness := (true, "e0f6c253858081f32d5ba056a0f3de40dc5c0873d98be27ff36a4f02d6a518cb"), looks := true }, kinds := [], alts := [], laidByText := true, laidKinds := [.data, .data, .data, .data, .handle, .sentinel, .sentinel, .sentinel, .pinned], laidTests := true, laidLooks := .later }
def TakenCardSaid : Prop := Claim7.holds Tryz.pinned (.plain (OpenSpec.ofChange takenSpec)) takenCard

/-- THE TIED CARD OF 'prosekeep.Plainly'. -/
def plainlyCard : Claim7 := { stood := { row := plainlyRow, standIns := [], harness := (true, "e0f6c253858081f32d5ba056a0f3de40dc5c0873d98be27ff36a4f02d6a518cb"), looks := true }, kinds := [], alts := [], laidByText := true, laidKinds := [.data, .data, .data, .data, .handle, .sentinel, .sentinel, .sentinel, .pinned], laidTests := true, laidLooks := .later }
def PlainlyCardSaid : Prop := Claim7.holds Tryz.pinned (.plain (OpenSpec.ofChange plainlySpec)) plainlyCard

/-- THE TIED CARD OF 'prosekeep.Cuts'. -/
def cutsCard : Claim7 := { stood := { row := cutsRow, standIns := [], harness := (true, "e0f6c253858081f32d5ba056a0f3de40dc5c0873d98be27ff36a4f02d6a518cb"), looks := true }, kinds := [], alts := [], laidByText := true, laidKinds := [.data, .data, .data, .data, .handle, .sentinel, .sentinel, .sentinel, .pinned], laidTests := true, laidLooks := .later }
def CutsCardSaid : Prop := Claim7.holds Tryz.pinned (.plain (OpenSpec.ofChange cutsSpec)) cutsCard

/-- THE SECOND FORM's CARD OF 'prosekeep.Tame'. -/
def tameUptoCard : Claim7 := { stood := { row := tameUptoRow, standIns := [], harness := (true, "e0f6c253858081f32d5ba056a0f3de40dc5c0873d98be27ff36a4f02d6a518cb"), looks := true }, kinds := [], alts := [], laidByText := true, laidKinds := [.data, .data, .data, .data, .handle, .sentinel, .sentinel, .sentinel, .pinned], laidTests := true, laidLooks := .later }
def TameUptoCardSaid : Prop := Claim7.holds Tryz.pinned (.plain (OpenSpec.upto tameSpec)) tameUptoCard

/-- THE SECOND FORM's CARD OF 'proselaw.All'. -/
def allUptoCard : Claim7 := { stood := { row := allUptoRow, standIns := [], harness := (true, "e0f6c253858081f32d5ba056a0f3de40dc5c0873d98be27ff36a4f02d6a518cb"), looks := true }, kinds := [], alts := [], laidByText := true, laidKinds := [.data, .data, .data, .data, .handle, .sentinel, .sentinel, .sentinel, .pinned], laidTests := true, laidLooks := .later }
def AllUptoCardSaid : Prop := Claim7.holds Tryz.pinned (.plain (OpenSpec.upto allSpec)) allUptoCard

/-- THE SECOND FORM's CARD OF 'proselaw.Pulls'. -/
def pullsUptoCard : Claim7 := { stood := { row := pullsUptoRow, standIns := [], harness := (true, "e0f6c253858081f32d5ba056a0f3de40dc5c0873d98be27ff36a4f02d6a518cb"), looks := true }, kinds := [], alts := [], laidByText := true, laidKinds := [.data, .handle, .sentinel, .sentinel, .sentinel, .pinned], laidTests := true, laidLooks := .later }
def PullsUptoCardSaid : Prop := Claim7.holds Tryz.pinned (.plain (OpenSpec.upto pullsSpec)) pullsUptoCard

/-- THE SECOND FORM's CARD OF 'proselaw.Writes'. -/
def writesUptoCard : Claim7 := { stood := { row := writesUptoRow, standIns := [], harness := (true, "e0f6c253858081f32d5ba056a0f3de40dc5c0873d98be27ff36a4f02d6a518cb"), looks := true }, kinds := [], alts := [], laidByText := true, laidKinds := [.data, .data, .data, .data, .handle, .sentinel, .sentinel, .sentinel, .pinned], laidTests := true, laidLooks := .later }
def WritesUptoCardSaid : Prop := Claim7.holds Tryz.pinned (.plain (OpenSpec.upto writesSpec)) writesUptoCard

/-- THE SECOND FORM's CARD OF 'proselaw.Counted'. -/
def countedUptoCard : Claim7 := { stood := { row := countedUptoRow, standIns := [], harness := (true, "e0f6c253858081f32d5ba056a0f3de40dc5c0873d98be27ff36a4f02d6a518cb"), looks := true }, kinds := [], alts := [], laidByText := true, laidKinds := [.data, .data, .data, .data, .handle, .sentinel, .sentinel, .sentinel, .pinned], laidTests := true, laidLooks := .later }
def CountedUptoCardSaid : Prop := Claim7.holds Tryz.pinned (.plain (OpenSpec.upto countedSpec)) countedUptoCard

/-- THE SECOND FORM's CARD OF 'prosekeep.Taken'. -/
def takenUptoCard : Claim7 := { stood := { row := takenUptoRow, standIns := [], harness := (true, "e0f6c253858081f32d5ba056a0f3de40dc5c0873d98be27ff36a4f02d6a518cb"), looks := true }, kinds := [], alts := [], laidByText := true, laidKinds := [.data, .data, .data, .data, .handle, .sentinel, .sentinel, .sentinel, .pinned], laidTests := true, laidLooks := .later }
def TakenUptoCardSaid : Prop := Claim7.holds Tryz.pinned (.plain (OpenSpec.upto takenSpec)) takenUptoCard

/-- THE SECOND FORM's CARD OF 'prosekeep.Plainly'. -/
def plainlyUptoCard : Claim7 := { stood := { row := plainlyUptoRow, standIns := [], harness := (true, "e0f6c253858081f32d5ba056a0f3de40dc5c0873d98be27ff36a4f02d6a518cb"), looks := true }, kinds := [], alts := [], laidByText := true, laidKinds := [.data, .data, .data, .data, .handle, .sentinel, .sentinel, .sentinel, .pinned], laidTests := true, laidLooks := .later }
def PlainlyUptoCardSaid : Prop := Claim7.holds Tryz.pinned (.plain (OpenSpec.upto plainlySpec)) plainlyUptoCard

/-- THE SECOND FORM's CARD OF 'prosekeep.Cuts'. -/
def cutsUptoCard : Claim7 := { stood := { row := cutsUptoRow, standIns := [], harness := (true, "e0f6c253858081f32d5ba056a0f3de40dc5c0873d98be27ff36a4f02d6a518cb"), looks := true }, kinds := [], alts := [], laidByText := true, laidKinds := [.data, .data, .data, .data, .handle, .sentinel, .sentinel, .sentinel, .pinned], laidTests := true, laidLooks := .later }
def CutsUptoCardSaid : Prop := Claim7.holds Tryz.pinned (.plain (OpenSpec.upto cutsSpec)) cutsUptoCard
end Rows
end Go.Proofs.YtbioecifiogffaaGreatDoor
