/-
  DERIVED. GIVEN WITH THE SEED: THE CARDS: each row of YtpgkjnebklknjaaGreatDoorRows.lean that lists a variable, with what it lists TIED to the program's text (the seventh form; the later family's looks); each row that meets fmt, with fmt's text TOLD by the authors' own Lean function (tested against real Go, not proved from fmt's source: count such statements apart). THE CARD IS WHAT COUNTS. Prove the row's statement (the work); the ties are given (YtpgkjnebklknjaaGreatDoorTie.lean); close each card by the builder's one call (the guide's Derived/Test/ToyasCard.lean, 'card_holds'). Laid BY PROGRAM, IN A SANDBOX (cutbox-door.mjs). By AI agents, Wed Nov 11 2026. No macro, syntax, notation, axiom, sorry.
-/
import Derived.Test.YtpgkjnebklknjaaGreatDoorRows
import GoSem.ClaimSeven
namespace Go.Proofs.YtpgkjnebklknjaaGreatDoor
namespace Rows

/-- THE TIED CARD OF 'palimpsestlaw.DeskAnswers'. -/
def deskAnswersCard : Claim7 := { stood := { row := deskAnswersRow, standIns := [], harness := (true, "b3ae0ec952df22b5aac9c5c18aa2acc09b73f53706038ba95fd48b49c9867f7b"), looks := true }, kinds := [], alts := [], laidByText := true, laidKinds := [.data, .data, .data, .data, .handle, .sentinel, .sentinel, .mapped, .pinned], laidTests := true, laidLooks := .later }
def DeskAnswersCardSaid : Prop := Claim7.holds Tryz.pinned (.plain (OpenSpec.ofChange deskAnswersSpec)) deskAnswersCard

/-- THE TIED CARD OF 'palimpsestkeep.DeskPieces'. -/
def deskPiecesCard : Claim7 := { stood := { row := deskPiecesRow, standIns := [], harness := (true, "b3ae0ec952df22b5aac9c5c18aa2acc09b73f53706038ba95fd48b49c9867f7b"), looks := true }, kinds := [], alts := [], laidByText := true, laidKinds := [.data, .data, .data, .data, .handle, .sentinel, .sentinel, .pinned], laidTests := true, laidLooks := .later }
def DeskPiecesCardSaid : Prop := Claim7.holds Tryz.pinned (.plain (OpenSpec.ofChange deskPiecesSpec)) deskPiecesCard

/-- THE SECOND FORM's CARD OF 'palimpsestlaw.DeskAnswers'. -/
def deskAnswersUptoCard : Claim7 := { stood := { row := deskAnswersUptoRow, standIns := [], harness := (true, "b3ae0ec952df22b5aac9c5c18aa2acc09b73f53706038ba95fd48b49c9867f7b"), looks := true }, kinds := [], alts := [], laidByText := true, laidKinds := [.data, .data, .data, .data, .handle, .sentinel, .sentinel, .mapped, .pinned], laidTests := true, laidLooks := .later }
def DeskAnswersUptoCardSaid : Prop := Claim7.holds Tryz.pinned (.plain (OpenSpec.upto deskAnswersSpec)) deskAnswersUptoCard

/-- THE SECOND FORM's CARD OF 'palimpsestkeep.DeskPieces'. -/
def deskPiecesUptoCard : Claim7 := { stood := { row := deskPiecesUptoRow, standIns := [], harness := (true, "b3ae0ec952df22b5aac9c5c18aa2acc09b73f53706038ba95fd48b49c9867f7b"), looks := true }, kinds := [], alts := [], laidByText := true, laidKinds := [.data, .data, .data, .data, .handle, .sentinel, .sentinel, .pinned], laidTests := true, laidLooks := .later }
def DeskPiecesUptoCardSaid : Prop := Claim7.holds Tryz.pinned (.plain (OpenSpec.upto deskPiecesSpec)) deskPiecesUptoCard
end Rows
end Go.Proofs.YtpgkjnebklknjaaGreatDoor
