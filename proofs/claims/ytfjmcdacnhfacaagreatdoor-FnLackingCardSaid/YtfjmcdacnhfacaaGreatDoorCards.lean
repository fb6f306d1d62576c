/-
  DERIVED. GIVEN WITH THE SEED: THE CARDS: each row of YtfjmcdacnhfacaaGreatDoorRows.lean that lists a variable, with what it lists TIED to the program's text (the seventh form; the later family's looks); each row that meets fmt, with fmt's text TOLD by the authors' own Lean function (tested against real Go, not proved from fmt's source: count such statements apart). THE CARD IS WHAT COUNTS. Prove the row's statement (the work); the ties are given (YtfjmcdacnhfacaaGreatDoorTie.lean); close each card by the builder's one call (the guide's Derived/Test/ToyasCard.lean, 'card_holds'). Laid BY PROGRAM, IN A SANDBOX (cutbox-door.mjs). By AI agents, Wed Nov 11 2026. No macro, syntax, notation, axiom, sorry.
-/
import Derived.Test.YtfjmcdacnhfacaaGreatDoorRows
import GoSem.ClaimSeven
namespace Go.Proofs.YtfjmcdacnhfacaaGreatDoor
namespace Rows

/-- THE TIED CARD OF 'laws.FnLacking'. -/
def fnLackingCard : Claim7 := { stood := { row := fnLackingRow, standIns := [], harness := (true, "b6a0b406ee1cac1f641a0e912c598f809dfb2ca514ae9d0b7073c847883fddaf"), looks := true }, kinds := [], alts := [], laidByText := true, laidKinds := [.data, .data, .data, .data, .sentinel, .sentinel, .pinned], laidTests := true, laidLooks := .later }
def FnLackingCardSaid : Prop := Claim7.holds Tryz.pinned (.plain (OpenSpec.ofChange fnLackingSpec)) fnLackingCard

/-- THE SECOND FORM's CARD OF 'laws.FnLacking'. -/
def fnLackingUptoCard : Claim7 := { stood := { row := fnLackingUptoRow, standIns := [], harness := (true, "b6a0b406ee1cac1f641a0e912c598f809dfb2ca514ae9d0b7073c847883fddaf"), looks := true }, kinds := [], alts := [], laidByText := true, laidKinds := [.data, .data, .data, .data, .sentinel, .sentinel, .pinned], laidTests := true, laidLooks := .later }
def FnLackingUptoCardSaid : Prop := Claim7.holds Tryz.pinned (.plain (OpenSpec.upto fnLackingSpec)) fnLackingUptoCard
end Rows
end Go.Proofs.YtfjmcdacnhfacaaGreatDoor
