/-
  DERIVED. GIVEN WITH THE SEED: THE CARDS: each row of YtflhpmgjehjjkaaGreatDoorRows.lean that lists a variable, with what it lists TIED to the program's text (the seventh form; the later family's looks); each row that meets fmt, with fmt's text TOLD by the authors' own Lean function (tested against real Go, not proved from fmt's source: count such statements apart). THE CARD IS WHAT COUNTS. Prove the row's statement (the work); the ties are given (YtflhpmgjehjjkaaGreatDoorTie.lean); close each card by the builder's one call (the guide's Derived/Test/ToyasCard.lean, 'card_holds'). Laid BY PROGRAM, IN A SANDBOX (cutbox-door.mjs). By AI agents, Wed Nov 11 2026. No macro, syntax, notation, axiom, sorry.
-/
import Derived.Test.YtflhpmgjehjjkaaGreatDoorRows
import GoSem.ClaimSeven
namespace Go.Proofs.YtflhpmgjehjjkaaGreatDoor
namespace Rows

/-- THE TIED CARD OF 'palimpsestkeep.WalkWays'. -/
def walkWaysCard : Claim7 := { stood := { row := walkWaysRow, standIns := [], harness := (true, "b8d250f63fa68d1bf1eab8692826e97db3b37e0597505282d86cdcb349f1085d"), looks := true }, kinds := [], alts := [], laidByText := true, laidKinds := [.data, .data, .data, .data, .handle, .pinned], laidTests := true, laidLooks := .later }
def WalkWaysCardSaid : Prop := Claim7.holds Tryz.pinned (.plain (OpenSpec.ofChange walkWaysSpec)) walkWaysCard

/-- THE TIED CARD OF 'palimpsestlaw.WalkPlays'. -/
def walkPlaysCard : Claim7 := { stood := { row := walkPlaysRow, standIns := [], harness := (true, "b8d250f63fa68d1bf1eab8692826e97db3b37e0597505282d86cdcb349f1085d"), looks := true }, kinds := [], alts := [], laidByText := true, laidKinds := [.data, .data, .data, .data, .handle, .pinned], laidTests := true, laidLooks := .later }
def WalkPlaysCardSaid : Prop := Claim7.holds Tryz.pinned (.plain (OpenSpec.ofChange walkPlaysSpec)) walkPlaysCard

/-- THE TIED CARD OF 'palimpsestkeep.BaseCrashes'. -/
def baseCrashesCard : Claim7 := { stood := { row := baseCrashesRow, standIns := [], harness := (true, "b8d250f63fa68d1bf1eab8692826e97db3b37e0597505282d86cdcb349f1085d"), looks := true }, kinds := [], alts := [], laidByText := true, laidKinds := [.data, .data, .data, .data, .handle, .sentinel, .sentinel, .pinned], laidTests := true, laidLooks := .later }
def BaseCrashesCardSaid : Prop := Claim7.holds Tryz.pinned (.plain (OpenSpec.ofChange baseCrashesSpec)) baseCrashesCard

/-- THE TIED CARD OF 'palimpsestlaw.BasePlays'. -/
def basePlaysCard : Claim7 := { stood := { row := basePlaysRow, standIns := [], harness := (true, "b8d250f63fa68d1bf1eab8692826e97db3b37e0597505282d86cdcb349f1085d"), looks := true }, kinds := [], alts := [], laidByText := true, laidKinds := [.data, .data, .data, .data, .handle, .sentinel, .sentinel, .pinned], laidTests := true, laidLooks := .later }
def BasePlaysCardSaid : Prop := Claim7.holds Tryz.pinned (.plain (OpenSpec.ofChange basePlaysSpec)) basePlaysCard

/-- THE SECOND FORM's CARD OF 'palimpsestkeep.WalkWays'. -/
def walkWaysUptoCard : Claim7 := { stood := { row := walkWaysUptoRow, standIns := [], harness := (true, "b8d250f63fa68d1bf1eab8692826e97db3b37e0597505282d86cdcb349f1085d"), looks := true }, kinds := [], alts := [], laidByText := true, laidKinds := [.data, .data, .data, .data, .handle, .pinned], laidTests := true, laidLooks := .later }
def WalkWaysUptoCardSaid : Prop := Claim7.holds Tryz.pinned (.plain (OpenSpec.upto walkWaysSpec)) walkWaysUptoCard

/-- THE SECOND FORM's CARD OF 'palimpsestlaw.WalkPlays'. -/
def walkPlaysUptoCard : Claim7 := { stood := { row := walkPlaysUptoRow, standIns := [], harness := (true, "b8d250f63fa68d1bf1eab8692826e97db3b37e0597505282d86cdcb349f1085d"), looks := true }, kinds := [], alts := [], laidByText := true, laidKinds := [.data, .data, .data, .data, .handle, .pinned], laidTests := true, laidLooks := .later }
def WalkPlaysUptoCardSaid : Prop := Claim7.holds Tryz.pinned (.plain (OpenSpec.upto walkPlaysSpec)) walkPlaysUptoCard

/-- THE SECOND FORM's CARD OF 'palimpsestkeep.BaseCrashes'. -/
def baseCrashesUptoCard : Claim7 := { stood := { row := baseCrashesUptoRow, standIns := [], harness := (true, "b8d250f63fa68d1bf1eab8692826e97db3b37e0597505282d86cdcb349f1085d"), looks := true }, kinds := [], alts := [], laidByText := true, laidKinds := [.data, .data, .data, .data, .handle, .sentinel, .sentinel, .pinned], laidTests := true, laidLooks := .later }
def BaseCrashesUptoCardSaid : Prop := Claim7.holds Tryz.pinned (.plain (OpenSpec.upto baseCrashesSpec)) baseCrashesUptoCard

/-- THE SECOND FORM's CARD OF 'palimpsestlaw.BasePlays'. -/
def basePlaysUptoCard : Claim7 := { stood := { row := basePlaysUptoRow, standIns := [], harness := (true, "b8d250f63fa68d1bf1eab8692826e97db3b37e0597505282d86cdcb349f1085d"), looks := true }, kinds := [], alts := [], laidByText := true, laidKinds := [.data, .data, .data, .data, .handle, .sentinel, .sentinel, .pinned], laidTests := true, laidLooks := .later }
def BasePlaysUptoCardSaid : Prop := Claim7.holds Tryz.pinned (.plain (OpenSpec.upto basePlaysSpec)) basePlaysUptoCard
end Rows
end Go.Proofs.YtflhpmgjehjjkaaGreatDoor
