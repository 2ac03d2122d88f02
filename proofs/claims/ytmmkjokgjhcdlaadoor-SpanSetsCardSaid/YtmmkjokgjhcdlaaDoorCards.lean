/-
  DERIVED. GIVEN WITH THE SEED: THE CARDS: each row of YtmmkjokgjhcdlaaDoorRows.lean that lists a variable, with what it lists TIED to the program's text (the seventh form; the later family's looks); each row that meets fmt, with fmt's text TOLD by the authors' own Lean function (tested against real Go, not proved from fmt's source: count such statements apart). THE CARD IS WHAT COUNTS. Prove the row's statement (the work); the ties are given (YtmmkjokgjhcdlaaDoorTie.lean); close each card by the builder's one call (the guide's Derived/Test/ToyasCard.lean, 'card_holds'). Laid BY PROGRAM, IN A SANDBOX (cutbox-door.mjs). By AI agents, Wed Nov 11 2026. No macro, syntax, notation, axiom, sorry.
-/
import Derived.Test.YtmmkjokgjhcdlaaDoorRows
import GoSem.ClaimSeven
namespace Go.Proofs.YtmmkjokgjhcdlaaDoor
namespace Rows

/-- THE TIED CARD OF 'palimpsestlaw.SpanSets'. -/
def spanSetsCard : Claim7 := { stood := { row := spanSetsRow, standIns := [], harness := (true, "b02e655f2f8edfd983968d6bfe6eec8a8f045c625cc84fa6e7e593084232627c"), looks := true }, kinds := [], alts := [], laidByText := true, laidKinds := [.handle], laidTests := true, laidLooks := .later }
def SpanSetsCardSaid : Prop := Claim7.holds Tryd.pinned (.plain (OpenSpec.ofChange spanSetsSpec)) spanSetsCard

/-- THE SECOND FORM's CARD OF 'palimpsestlaw.SpanSets'. -/
def spanSetsUptoCard : Claim7 := { stood := { row := spanSetsUptoRow, standIns := [], harness := (true, "b02e655f2f8edfd983968d6bfe6eec8a8f045c625cc84fa6e7e593084232627c"), looks := true }, kinds := [], alts := [], laidByText := true, laidKinds := [.handle], laidTests := true, laidLooks := .later }
def SpanSetsUptoCardSaid : Prop := Claim7.holds Tryd.pinned (.plain (OpenSpec.upto spanSetsSpec)) spanSetsUptoCard
end Rows
end Go.Proofs.YtmmkjokgjhcdlaaDoor
