/-
  DERIVED. GIVEN WITH THE SEED: THE CARDS: each row of YtcphlgkfboafoaaGreatDoorRows.lean that lists a variable, with what it lists TIED to the program's text (the seventh form; the later family's looks); each row that meets fmt, with fmt's text TOLD by the authors' own Lean function (tested against real Go, not proved from fmt's source: count such statements apart). THE CARD IS WHAT COUNTS. Prove the row's statement (the work); the ties are given (YtcphlgkfboafoaaGreatDoorTie.lean); close each card by the builder's one call (the guide's Derived/Test/ToyasCard.lean, 'card_holds'). Laid BY PROGRAM, IN A SANDBOX (cutbox-door.mjs). By AI agents, Wed Nov 11 2026. No macro, syntax, notation, axiom, sorry.
-/
import Derived.Test.YtcphlgkfboafoaaGreatDoorRows
import GoSem.ClaimSeven
namespace Go.Proofs.YtcphlgkfboafoaaGreatDoor
namespace Rows

/-- THE TIED CARD OF 'quoinlaw22.MiniNames'. -/
def miniNamesCard : Claim7 := { stood := { row := miniNamesRow, standIns := [], harness := (true, "24a34024d44f4a076213f5b1f76061867a03ed99292e1bc7064711a6d99003ab"), looks := true }, kinds := [], alts := [], laidByText := true, laidKinds := [.data, .data, .data, .sentinel, .sentinel], laidTests := true, laidLooks := .later }
def MiniNamesCardSaid : Prop := Claim7.holds Tryz.pinned (.plain (OpenSpec.ofChange miniNamesSpec)) miniNamesCard

/-- THE SECOND FORM's CARD OF 'quoinlaw22.MiniNames'. -/
def miniNamesUptoCard : Claim7 := { stood := { row := miniNamesUptoRow, standIns := [], harness := (true, "24a34024d44f4a076213f5b1f76061867a03ed99292e1bc7064711a6d99003ab"), looks := true }, kinds := [], alts := [], laidByText := true, laidKinds := [.data, .data, .data, .sentinel, .sentinel], laidTests := true, laidLooks := .later }
def MiniNamesUptoCardSaid : Prop := Claim7.holds Tryz.pinned (.plain (OpenSpec.upto miniNamesSpec)) miniNamesUptoCard
end Rows
end Go.Proofs.YtcphlgkfboafoaaGreatDoor
