/-
  DERIVED. GIVEN WITH THE SEED: THE CARDS: each row of YtbioecifiogffaaDoorRows.lean that lists a variable, with what it lists TIED to the program's text (the seventh form; the later family's looks); each row that meets fmt, with fmt's text TOLD by the authors' own Lean function (tested against real Go, not proved from fmt's source: count such statements apart). THE CARD IS WHAT COUNTS. Prove the row's statement (the work); the ties are given (YtbioecifiogffaaDoorTie.lean); close each card by the builder's one call (the guide's Derived/Test/ToyasCard.lean, 'card_holds'). Laid BY PROGRAM, IN A SANDBOX (cutbox-door.mjs). By AI agents, Wed Nov 11 2026. No macro, syntax, notation, axiom, sorry.
-/
import Derived.Test.YtbioecifiogffaaDoorRows
import GoSem.ClaimSeven
namespace Go.Proofs.YtbioecifiogffaaDoor
namespace Rows

/-- THE TIED CARD OF 'proselaw.Names'. -/
def namesCard : Claim7 := { stood := { row := namesRow, standIns := [], harness := (true, "67a7573c2e995b4a0fc7a0c8c996dbd8798f4764ace3a3d9bd242e7f134562ca"), looks := true }, kinds := [], alts := [], laidByText := true, laidKinds := [.sentinel, .sentinel, .sentinel], laidTests := true, laidLooks := .later }
def NamesCardSaid : Prop := Claim7.holds Tryd.pinned (.plain (OpenSpec.ofChange namesSpec)) namesCard

/-- THE TIED CARD OF 'proselaw.Gathers'. -/
def gathersCard : Claim7 := { stood := { row := gathersRow, standIns := [], harness := (true, "67a7573c2e995b4a0fc7a0c8c996dbd8798f4764ace3a3d9bd242e7f134562ca"), looks := true }, kinds := [], alts := [], laidByText := true, laidKinds := [.handle, .sentinel, .sentinel, .sentinel], laidTests := true, laidLooks := .later }
def GathersCardSaid : Prop := Claim7.holds Tryd.pinned (.plain (OpenSpec.ofChange gathersSpec)) gathersCard

/-- THE TIED CARD OF 'proselaw.Inlined'. -/
def inlinedCard : Claim7 := { stood := { row := inlinedRow, standIns := [], harness := (true, "67a7573c2e995b4a0fc7a0c8c996dbd8798f4764ace3a3d9bd242e7f134562ca"), looks := true }, kinds := [], alts := [], laidByText := true, laidKinds := [.data, .pinned], laidTests := true, laidLooks := .later }
def InlinedCardSaid : Prop := Claim7.holds Tryd.pinned (.plain (OpenSpec.ofChange inlinedSpec)) inlinedCard

/-- THE TIED CARD OF 'proselaw.Blocked'. -/
def blockedCard : Claim7 := { stood := { row := blockedRow, standIns := [], harness := (true, "67a7573c2e995b4a0fc7a0c8c996dbd8798f4764ace3a3d9bd242e7f134562ca"), looks := true }, kinds := [], alts := [], laidByText := true, laidKinds := [.data, .pinned], laidTests := true, laidLooks := .later }
def BlockedCardSaid : Prop := Claim7.holds Tryd.pinned (.plain (OpenSpec.ofChange blockedSpec)) blockedCard

/-- THE SECOND FORM's CARD OF 'proselaw.Names'. -/
def namesUptoCard : Claim7 := { stood := { row := namesUptoRow, standIns := [], harness := (true, "67a7573c2e995b4a0fc7a0c8c996dbd8798f4764ace3a3d9bd242e7f134562ca"), looks := true }, kinds := [], alts := [], laidByText := true, laidKinds := [.sentinel, .sentinel, .sentinel], laidTests := true, laidLooks := .later }
def NamesUptoCardSaid : Prop := Claim7.holds Tryd.pinned (.plain (OpenSpec.upto namesSpec)) namesUptoCard

/-- THE SECOND FORM's CARD OF 'proselaw.Gathers'. -/
def gathersUptoCard : Claim7 := { stood := { row := gathersUptoRow, standIns := [], harness := (true, "67a7573c2e995b4a0fc7a0c8c996dbd8798f4764ace3a3d9bd242e7f134562ca"), looks := true }, kinds := [], alts := [], laidByText := true, laidKinds := [.handle, .sentinel, .sentinel, .sentinel], laidTests := true, laidLooks := .later }
def GathersUptoCardSaid : Prop := Claim7.holds Tryd.pinned (.plain (OpenSpec.upto gathersSpec)) gathersUptoCard

/-- THE SECOND FORM's CARD OF 'proselaw.Inlined'. -/
def inlinedUptoCard : Claim7 := { stood := { row := inlinedUptoRow, standIns := [], harness := (true, "67a7573c2e995b4a0fc7a0c8c996dbd8798f4764ace3a3d9bd242e7f134562ca"), looks := true }, kinds := [], alts := [], laidByText := true, laidKinds := [.data, .pinned], laidTests := true, laidLooks := .later }
def InlinedUptoCardSaid : Prop := Claim7.holds Tryd.pinned (.plain (OpenSpec.upto inlinedSpec)) inlinedUptoCard

/-- THE SECOND FORM's CARD OF 'proselaw.Blocked'. -/
def blockedUptoCard : Claim7 := { stood := { row := blockedUptoRow, standIns := [], harness := (true, "67a7573c2e995b4a0fc7a0c8c996dbd8798f4764ace3a3d9bd242e7f134562ca"), looks := true }, kinds := [], alts := [], laidByText := true, laidKinds := [.data, .pinned], laidTests := true, laidLooks := .later }
def BlockedUptoCardSaid : Prop := Claim7.holds Tryd.pinned (.plain (OpenSpec.upto blockedSpec)) blockedUptoCard
end Rows
end Go.Proofs.YtbioecifiogffaaDoor
