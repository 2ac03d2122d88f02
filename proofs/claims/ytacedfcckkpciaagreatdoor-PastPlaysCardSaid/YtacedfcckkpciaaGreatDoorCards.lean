/-
  DERIVED. GIVEN WITH THE SEED: THE CARDS: each row of YtacedfcckkpciaaGreatDoorRows.lean that lists a variable, with what it lists TIED to the program's text (the seventh form; the later family's looks); each row that meets fmt, with fmt's text TOLD by the authors' own Lean function (tested against real Go, not proved from fmt's source: count such statements apart). THE CARD IS WHAT COUNTS. Prove the row's statement (the work); the ties are given (YtacedfcckkpciaaGreatDoorTie.lean); close each card by the builder's one call (the guide's Derived/Test/ToyasCard.lean, 'card_holds'). Laid BY PROGRAM, IN A SANDBOX (cutbox-door.mjs). By AI agents, Wed Nov 11 2026. No macro, syntax, notation, axiom, sorry.
-/
import Derived.Test.YtacedfcckkpciaaGreatDoorRows
import GoSem.ClaimSeven
namespace Go.Proofs.YtacedfcckkpciaaGreatDoor
namespace Rows

/-- THE TIED CARD OF 'palimpsestkeep.PastStays'. -/
def pastStaysCard : Claim7 := { stood := { row := pastStaysRow, standIns := [], harness := (true, "9edad2126b3e84dfafb1e16180421f2ff1676d7957f7175d5bae2cab91916939"), looks := true }, kinds := [], alts := [], laidByText := true, laidKinds := [.data, .data, .data, .data, .pinned], laidTests := true, laidLooks := .later }
def PastStaysCardSaid : Prop := Claim7.holds Tryz.pinned (.plain (OpenSpec.ofChange pastStaysSpec)) pastStaysCard

/-- THE TIED CARD OF 'palimpsestkeep.PastForgets'. -/
def pastForgetsCard : Claim7 := { stood := { row := pastForgetsRow, standIns := [], harness := (true, "9edad2126b3e84dfafb1e16180421f2ff1676d7957f7175d5bae2cab91916939"), looks := true }, kinds := [], alts := [], laidByText := true, laidKinds := [.data, .data, .data, .data, .handle, .pinned], laidTests := true, laidLooks := .later }
def PastForgetsCardSaid : Prop := Claim7.holds Tryz.pinned (.plain (OpenSpec.ofChange pastForgetsSpec)) pastForgetsCard

/-- THE TIED CARD OF 'palimpsestlaw.PastPlays'. -/
def pastPlaysCard : Claim7 := { stood := { row := pastPlaysRow, standIns := [], harness := (true, "9edad2126b3e84dfafb1e16180421f2ff1676d7957f7175d5bae2cab91916939"), looks := true }, kinds := [], alts := [], laidByText := true, laidKinds := [.data, .data, .data, .data, .handle, .pinned], laidTests := true, laidLooks := .later }
def PastPlaysCardSaid : Prop := Claim7.holds Tryz.pinned (.plain (OpenSpec.ofChange pastPlaysSpec)) pastPlaysCard

/-- THE SECOND FORM's CARD OF 'palimpsestkeep.PastStays'. -/
def pastStaysUptoCard : Claim7 := { stood := { row := pastStaysUptoRow, standIns := [], harness := (true, "9edad2126b3e84dfafb1e16180421f2ff1676d7957f7175d5bae2cab91916939"), looks := true }, kinds := [], alts := [], laidByText := true, laidKinds := [.data, .data, .data, .data, .pinned], laidTests := true, laidLooks := .later }
def PastStaysUptoCardSaid : Prop := Claim7.holds Tryz.pinned (.plain (OpenSpec.upto pastStaysSpec)) pastStaysUptoCard

/-- THE SECOND FORM's CARD OF 'palimpsestkeep.PastForgets'. -/
def pastForgetsUptoCard : Claim7 := { stood := { row := pastForgetsUptoRow, standIns := [], harness := (true, "9edad2126b3e84dfafb1e16180421f2ff1676d7957f7175d5bae2cab91916939"), looks := true }, kinds := [], alts := [], laidByText := true, laidKinds := [.data, .data, .data, .data, .handle, .pinned], laidTests := true, laidLooks := .later }
def PastForgetsUptoCardSaid : Prop := Claim7.holds Tryz.pinned (.plain (OpenSpec.upto pastForgetsSpec)) pastForgetsUptoCard

/-- THE SECOND FORM's CARD OF 'palimpsestlaw.PastPlays'. -/
def pastPlaysUptoCard : Claim7 := { stood := { row := pastPlaysUptoRow, standIns := [], harness := (true, "9edad2126b3e84dfafb1e16180421f2ff1676d7957f7175d5bae2cab91916939"), looks := true }, kinds := [], alts := [], laidByText := true, laidKinds := [.data, .data, .data, .data, .handle, .pinned], laidTests := true, laidLooks := .later }
def PastPlaysUptoCardSaid : Prop := Claim7.holds Tryz.pinned (.plain (OpenSpec.upto pastPlaysSpec)) pastPlaysUptoCard
end Rows
end Go.Proofs.YtacedfcckkpciaaGreatDoor
