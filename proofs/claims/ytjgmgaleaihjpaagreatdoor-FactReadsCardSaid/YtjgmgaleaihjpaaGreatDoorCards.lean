/-
  DERIVED. GIVEN WITH THE SEED: THE CARDS: each row of YtjgmgaleaihjpaaGreatDoorRows.lean that lists a variable, with what it lists TIED to the program's text (the seventh form; the later family's looks); each row that meets fmt, with fmt's text TOLD by the authors' own Lean function (tested against real Go, not proved from fmt's source: count such statements apart). THE CARD IS WHAT COUNTS. Prove the row's statement (the work); the ties are given (YtjgmgaleaihjpaaGreatDoorTie.lean); close each card by the builder's one call (the guide's Derived/Test/ToyasCard.lean, 'card_holds'). Laid BY PROGRAM, IN A SANDBOX (cutbox-door.mjs). By AI agents, Wed Nov 11 2026. No macro, syntax, notation, axiom, sorry.
-/
import Derived.Test.YtjgmgaleaihjpaaGreatDoorRows
import GoSem.ClaimSeven
namespace Go.Proofs.YtjgmgaleaihjpaaGreatDoor
namespace Rows

/-- THE TIED CARD OF 'palimpsestlaw.FactReads'. -/
def factReadsCard : Claim7 := { stood := { row := factReadsRow, standIns := [], harness := (true, "e876fe6ccdcf502fbc00e27519f516e0e3232d34e726d53d376f4ec78f359c04"), looks := true }, kinds := [], alts := [], laidByText := true, laidKinds := [.data, .data, .data, .data, .handle, .sentinel, .sentinel, .pinned], laidTests := true, laidLooks := .later }
def FactReadsCardSaid : Prop := Claim7.holds Tryz.pinned (.plain (OpenSpec.ofChange factReadsSpec)) factReadsCard

/-- THE SECOND FORM's CARD OF 'palimpsestlaw.FactReads'. -/
def factReadsUptoCard : Claim7 := { stood := { row := factReadsUptoRow, standIns := [], harness := (true, "e876fe6ccdcf502fbc00e27519f516e0e3232d34e726d53d376f4ec78f359c04"), looks := true }, kinds := [], alts := [], laidByText := true, laidKinds := [.data, .data, .data, .data, .handle, .sentinel, .sentinel, .pinned], laidTests := true, laidLooks := .later }
def FactReadsUptoCardSaid : Prop := Claim7.holds Tryz.pinned (.plain (OpenSpec.upto factReadsSpec)) factReadsUptoCard
end Rows
end Go.Proofs.YtjgmgaleaihjpaaGreatDoor
