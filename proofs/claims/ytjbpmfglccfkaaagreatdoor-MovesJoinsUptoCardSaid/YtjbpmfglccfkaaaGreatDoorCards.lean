/-
  DERIVED. GIVEN WITH THE SEED: THE CARDS: each row of YtjbpmfglccfkaaaGreatDoorRows.lean that lists a variable, with what it lists TIED to the program's text (the seventh form; the later family's looks); each row that meets fmt, with fmt's text TOLD by the authors' own Lean function (tested against real Go, not proved from fmt's source: count such statements apart). THE CARD IS WHAT COUNTS. Prove the row's statement (the work); the ties are given (YtjbpmfglccfkaaaGreatDoorTie.lean); close each card by the builder's one call (the guide's Derived/Test/ToyasCard.lean, 'card_holds'). Laid BY PROGRAM, IN A SANDBOX (cutbox-door.mjs). By AI agents, Wed Nov 11 2026. No macro, syntax, notation, axiom, sorry.
-/
import Derived.Test.YtjbpmfglccfkaaaGreatDoorRows
import GoSem.ClaimSeven
namespace Go.Proofs.YtjbpmfglccfkaaaGreatDoor
namespace Rows

/-- THE TIED CARD OF 'supergraphlaw25.MovesJoins'. -/
def movesJoinsCard : Claim7 := { stood := { row := movesJoinsRow, standIns := [], harness := (true, "67ad0b79b2f30e26f596f8164a8a3cb64612d01e03c5891cb8a6dc6e519775e4"), looks := false }, kinds := [], alts := [], laidByText := true, laidKinds := [.data, .pinned], laidTests := true, laidLooks := .later }
def MovesJoinsCardSaid : Prop := Claim7.holds Tryz.pinned (.plain (OpenSpec.ofChange movesJoinsSpec)) movesJoinsCard

/-- THE SECOND FORM's CARD OF 'supergraphlaw25.MovesJoins'. -/
def movesJoinsUptoCard : Claim7 := { stood := { row := movesJoinsUptoRow, standIns := [], harness := (true, "67ad0b79b2f30e26f596f8164a8a3cb64612d01e03c5891cb8a6dc6e519775e4"), looks := false }, kinds := [], alts := [], laidByText := true, laidKinds := [.data, .pinned], laidTests := true, laidLooks := .later }
def MovesJoinsUptoCardSaid : Prop := Claim7.holds Tryz.pinned (.plain (OpenSpec.upto movesJoinsSpec)) movesJoinsUptoCard
end Rows
end Go.Proofs.YtjbpmfglccfkaaaGreatDoor
