/-
  DERIVED. GIVEN WITH THE SEED: THE CARDS: each row of YtjgmgaleaihjpaaDoorRows.lean that lists a variable, with what it lists TIED to the program's text (the seventh form; the later family's looks); each row that meets fmt, with fmt's text TOLD by the authors' own Lean function (tested against real Go, not proved from fmt's source: count such statements apart). THE CARD IS WHAT COUNTS. Prove the row's statement (the work); the ties are given (YtjgmgaleaihjpaaDoorTie.lean); close each card by the builder's one call (the guide's Derived/Test/ToyasCard.lean, 'card_holds'). Laid BY PROGRAM, IN A SANDBOX (cutbox-door.mjs). By AI agents, Wed Nov 11 2026. No macro, syntax, notation, axiom, sorry.
-/
import Derived.Test.YtjgmgaleaihjpaaDoorRows
import GoSem.ClaimSeven
namespace Go.Proofs.YtjgmgaleaihjpaaDoor
namespace Rows

/-- THE TIED CARD OF 'palimpsestlaw.FactWrites'. -/
def factWritesCard : Claim7 := { stood := { row := factWritesRow, standIns := [], harness := (true, "cfe8a3d0ef90386d84f8d4cbce8ea5c17965d9622e38af3cc6f684b13b530fa4"), looks := true }, kinds := [], alts := [], laidByText := true, laidKinds := [.data, .data, .data, .data, .handle, .pinned], laidTests := true, laidLooks := .later }
def FactWritesCardSaid : Prop := Claim7.holds Tryd.pinned (.plain (OpenSpec.ofChange factWritesSpec)) factWritesCard

/-- THE TIED CARD OF 'palimpsestkeep.FactBack'. -/
def factBackCard : Claim7 := { stood := { row := factBackRow, standIns := [], harness := (true, "cfe8a3d0ef90386d84f8d4cbce8ea5c17965d9622e38af3cc6f684b13b530fa4"), looks := true }, kinds := [], alts := [], laidByText := true, laidKinds := [.data, .data, .data, .data, .sentinel, .sentinel, .pinned], laidTests := true, laidLooks := .later }
def FactBackCardSaid : Prop := Claim7.holds Tryd.pinned (.plain (OpenSpec.ofChange factBackSpec)) factBackCard

/-- THE SECOND FORM's CARD OF 'palimpsestlaw.FactWrites'. -/
def factWritesUptoCard : Claim7 := { stood := { row := factWritesUptoRow, standIns := [], harness := (true, "cfe8a3d0ef90386d84f8d4cbce8ea5c17965d9622e38af3cc6f684b13b530fa4"), looks := true }, kinds := [], alts := [], laidByText := true, laidKinds := [.data, .data, .data, .data, .handle, .pinned], laidTests := true, laidLooks := .later }
def FactWritesUptoCardSaid : Prop := Claim7.holds Tryd.pinned (.plain (OpenSpec.upto factWritesSpec)) factWritesUptoCard

/-- THE SECOND FORM's CARD OF 'palimpsestkeep.FactBack'. -/
def factBackUptoCard : Claim7 := { stood := { row := factBackUptoRow, standIns := [], harness := (true, "cfe8a3d0ef90386d84f8d4cbce8ea5c17965d9622e38af3cc6f684b13b530fa4"), looks := true }, kinds := [], alts := [], laidByText := true, laidKinds := [.data, .data, .data, .data, .sentinel, .sentinel, .pinned], laidTests := true, laidLooks := .later }
def FactBackUptoCardSaid : Prop := Claim7.holds Tryd.pinned (.plain (OpenSpec.upto factBackSpec)) factBackUptoCard
end Rows
end Go.Proofs.YtjgmgaleaihjpaaDoor
