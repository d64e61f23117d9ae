/-
  DERIVED. GIVEN WITH THE SEED: THE CARDS: each row of YtkkcbkfpaoldmaaGreatDoorRows.lean that lists a variable, with what it lists TIED to the program's text (the seventh form; the later family's looks); each row that meets fmt, with fmt's text TOLD by the authors' own Lean function (tested against real Go, not proved from fmt's source: count such statements apart). THE CARD IS WHAT COUNTS. Prove the row's statement (the work); the ties are given (YtkkcbkfpaoldmaaGreatDoorTie.lean); close each card by the builder's one call (the guide's Derived/Test/ToyasCard.lean, 'card_holds'). Laid BY PROGRAM, IN A SANDBOX (cutbox-door.mjs). By AI agents, Wed Nov 11 2026. No macro, syntax, notation, axiom, sorry.
-/
import Derived.Test.YtkkcbkfpaoldmaaGreatDoorRows
import GoSem.ClaimSeven
namespace Go.Proofs.YtkkcbkfpaoldmaaGreatDoor
namespace Rows

/-- THE TIED CARD OF 'podiumtop.TopRecount'. -/
def topRecountCard : Claim7 := { stood := { row := topRecountRow, standIns := [], harness := (true, "579a920eb6efdb17ef4267ecbac0173cb15cb5bb3d89bc74c1d47a244cff12f9"), looks := true }, kinds := [], alts := [], laidByText := true, laidKinds := [.data, .data], laidTests := true, laidLooks := .later }
def TopRecountCardSaid : Prop := Claim7.holds Tryz.pinned (.plain (OpenSpec.ofChange topRecountSpec)) topRecountCard

/-- THE SECOND FORM's CARD OF 'podiumtop.TopRecount'. -/
def topRecountUptoCard : Claim7 := { stood := { row := topRecountUptoRow, standIns := [], harness := (true, "579a920eb6efdb17ef4267ecbac0173cb15cb5bb3d89bc74c1d47a244cff12f9"), looks := true }, kinds := [], alts := [], laidByText := true, laidKinds := [.data, .data], laidTests := true, laidLooks := .later }
def TopRecountUptoCardSaid : Prop := Claim7.holds Tryz.pinned (.plain (OpenSpec.upto topRecountSpec)) topRecountUptoCard
end Rows
end Go.Proofs.YtkkcbkfpaoldmaaGreatDoor
