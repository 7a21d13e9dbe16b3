/-
  DERIVED. GIVEN WITH THE SEED: THE CARDS: each row of YtjbpmfglccfkaaaDoorRows.lean that lists a variable, with what it lists TIED to the program's text (the seventh form; the later family's looks); each row that meets fmt, with fmt's text TOLD by the authors' own Lean function (tested against real Go, not proved from fmt's source: count such statements apart). THE CARD IS WHAT COUNTS. Prove the row's statement (the work); the ties are given (YtjbpmfglccfkaaaDoorTie.lean); close each card by the builder's one call (the guide's Derived/Test/ToyasCard.lean, 'card_holds'). Laid BY PROGRAM, IN A SANDBOX (cutbox-door.mjs). By AI agents, Wed Nov 11 2026. No macro, syntax, notation, axiom, sorry.
-/
import Derived.Test.YtjbpmfglccfkaaaDoorRows
import GoSem.ClaimSeven
namespace Go.Proofs.YtjbpmfglccfkaaaDoor
namespace Rows

/-- THE TIED CARD OF 'supergraphlaw23.DirectivesSets'. -/
def directivesSetsCard : Claim7 := { stood := { row := directivesSetsRow, standIns := [], harness := (true, "cc66cb2574c15193f19872300e0778b3c5febaf1a1ae4f38eab4892d446fc39c"), looks := false }, kinds := [], alts := [], laidByText := true, laidKinds := [.data, .pinned], laidTests := true, laidLooks := .later }
def DirectivesSetsCardSaid : Prop := Claim7.holds Tryd.pinned (.plain (OpenSpec.ofChange directivesSetsSpec)) directivesSetsCard

/-- THE TIED CARD OF 'supergraphlaw23.DirectivesCheck'. -/
def directivesCheckCard : Claim7 := { stood := { row := directivesCheckRow, standIns := [], harness := (true, "cc66cb2574c15193f19872300e0778b3c5febaf1a1ae4f38eab4892d446fc39c"), looks := false }, kinds := [], alts := [], laidByText := true, laidKinds := [.data, .pinned], laidTests := true, laidLooks := .later }
def DirectivesCheckCardSaid : Prop := Claim7.holds Tryd.pinned (.plain (OpenSpec.ofChange directivesCheckSpec)) directivesCheckCard

/-- THE TIED CARD OF 'supergraphlaw23.DirectivesUnknown'. -/
def directivesUnknownCard : Claim7 := { stood := { row := directivesUnknownRow, standIns := [], harness := (true, "cc66cb2574c15193f19872300e0778b3c5febaf1a1ae4f38eab4892d446fc39c"), looks := false }, kinds := [], alts := [], laidByText := true, laidKinds := [.data, .pinned], laidTests := true, laidLooks := .later }
def DirectivesUnknownCardSaid : Prop := Claim7.holds Tryd.pinned (.plain (OpenSpec.ofChange directivesUnknownSpec)) directivesUnknownCard

/-- THE TIED CARD OF 'supergraphlaw23.DirectivesPublic'. -/
def directivesPublicCard : Claim7 := { stood := { row := directivesPublicRow, standIns := [], harness := (true, "cc66cb2574c15193f19872300e0778b3c5febaf1a1ae4f38eab4892d446fc39c"), looks := false }, kinds := [], alts := [], laidByText := true, laidKinds := [.data, .pinned], laidTests := true, laidLooks := .later }
def DirectivesPublicCardSaid : Prop := Claim7.holds Tryd.pinned (.plain (OpenSpec.ofChange directivesPublicSpec)) directivesPublicCard

/-- THE TIED CARD OF 'supergraphlaw23.DirectivesFind'. -/
def directivesFindCard : Claim7 := { stood := { row := directivesFindRow, standIns := [], harness := (true, "cc66cb2574c15193f19872300e0778b3c5febaf1a1ae4f38eab4892d446fc39c"), looks := false }, kinds := [], alts := [], laidByText := true, laidKinds := [.data, .pinned], laidTests := true, laidLooks := .later }
def DirectivesFindCardSaid : Prop := Claim7.holds Tryd.pinned (.plain (OpenSpec.ofChange directivesFindSpec)) directivesFindCard

/-- THE TIED CARD OF 'supergraphlaw25.MovesSound'. -/
def movesSoundCard : Claim7 := { stood := { row := movesSoundRow, standIns := [], harness := (true, "cc66cb2574c15193f19872300e0778b3c5febaf1a1ae4f38eab4892d446fc39c"), looks := false }, kinds := [], alts := [], laidByText := true, laidKinds := [.data, .pinned], laidTests := true, laidLooks := .later }
def MovesSoundCardSaid : Prop := Claim7.holds Tryd.pinned (.plain (OpenSpec.ofChange movesSoundSpec)) movesSoundCard

/-- THE TIED CARD OF 'supergraphlaw25.MovesOrder'. -/
def movesOrderCard : Claim7 := { stood := { row := movesOrderRow, standIns := [], harness := (true, "cc66cb2574c15193f19872300e0778b3c5febaf1a1ae4f38eab4892d446fc39c"), looks := false }, kinds := [], alts := [], laidByText := true, laidKinds := [.data, .pinned], laidTests := true, laidLooks := .later }
def MovesOrderCardSaid : Prop := Claim7.holds Tryd.pinned (.plain (OpenSpec.ofChange movesOrderSpec)) movesOrderCard

/-- THE TIED CARD OF 'supergraphlaw25.MovesAlone'. -/
def movesAloneCard : Claim7 := { stood := { row := movesAloneRow, standIns := [], harness := (true, "cc66cb2574c15193f19872300e0778b3c5febaf1a1ae4f38eab4892d446fc39c"), looks := false }, kinds := [], alts := [], laidByText := true, laidKinds := [.data, .pinned], laidTests := true, laidLooks := .later }
def MovesAloneCardSaid : Prop := Claim7.holds Tryd.pinned (.plain (OpenSpec.ofChange movesAloneSpec)) movesAloneCard

/-- THE TIED CARD OF 'supergraphlaw25.MovesFinds'. -/
def movesFindsCard : Claim7 := { stood := { row := movesFindsRow, standIns := [], harness := (true, "cc66cb2574c15193f19872300e0778b3c5febaf1a1ae4f38eab4892d446fc39c"), looks := false }, kinds := [], alts := [], laidByText := true, laidKinds := [.data, .pinned], laidTests := true, laidLooks := .later }
def MovesFindsCardSaid : Prop := Claim7.holds Tryd.pinned (.plain (OpenSpec.ofChange movesFindsSpec)) movesFindsCard

/-- THE SECOND FORM's CARD OF 'supergraphlaw23.DirectivesSets'. -/
def directivesSetsUptoCard : Claim7 := { stood := { row := directivesSetsUptoRow, standIns := [], harness := (true, "cc66cb2574c15193f19872300e0778b3c5febaf1a1ae4f38eab4892d446fc39c"), looks := false }, kinds := [], alts := [], laidByText := true, laidKinds := [.data, .pinned], laidTests := true, laidLooks := .later }
def DirectivesSetsUptoCardSaid : Prop := Claim7.holds Tryd.pinned (.plain (OpenSpec.upto directivesSetsSpec)) directivesSetsUptoCard

/-- THE SECOND FORM's CARD OF 'supergraphlaw23.DirectivesCheck'. -/
def directivesCheckUptoCard : Claim7 := { stood := { row := directivesCheckUptoRow, standIns := [], harness := (true, "cc66cb2574c15193f19872300e0778b3c5febaf1a1ae4f38eab4892d446fc39c"), looks := false }, kinds := [], alts := [], laidByText := true, laidKinds := [.data, .pinned], laidTests := true, laidLooks := .later }
def DirectivesCheckUptoCardSaid : Prop := Claim7.holds Tryd.pinned (.plain (OpenSpec.upto directivesCheckSpec)) directivesCheckUptoCard

/-- THE SECOND FORM's CARD OF 'supergraphlaw23.DirectivesUnknown'. -/
def directivesUnknownUptoCard : Claim7 := { stood := { row := directivesUnknownUptoRow, standIns := [], harness := (true, "cc66cb2574c15193f19872300e0778b3c5febaf1a1ae4f38eab4892d446fc39c"), looks := false }, kinds := [], alts := [], laidByText := true, laidKinds := [.data, .pinned], laidTests := true, laidLooks := .later }
def DirectivesUnknownUptoCardSaid : Prop := Claim7.holds Tryd.pinned (.plain (OpenSpec.upto directivesUnknownSpec)) directivesUnknownUptoCard

/-- THE SECOND FORM's CARD OF 'supergraphlaw23.DirectivesPublic'. -/
def directivesPublicUptoCard : Claim7 := { stood := { row := directivesPublicUptoRow, standIns := [], harness := (true, "cc66cb2574c15193f19872300e0778b3c5febaf1a1ae4f38eab4892d446fc39c"), looks := false }, kinds := [], alts := [], laidByText := true, laidKinds := [.data, .pinned], laidTests := true, laidLooks := .later }
def DirectivesPublicUptoCardSaid : Prop := Claim7.holds Tryd.pinned (.plain (OpenSpec.upto directivesPublicSpec)) directivesPublicUptoCard

/-- THE SECOND FORM's CARD OF 'supergraphlaw23.DirectivesFind'. -/
def directivesFindUptoCard : Claim7 := { stood := { row := directivesFindUptoRow, standIns := [], harness := (true, "cc66cb2574c15193f19872300e0778b3c5febaf1a1ae4f38eab4892d446fc39c"), looks := false }, kinds := [], alts := [], laidByText := true, laidKinds := [.data, .pinned], laidTests := true, laidLooks := .later }
def DirectivesFindUptoCardSaid : Prop := Claim7.holds Tryd.pinned (.plain (OpenSpec.upto directivesFindSpec)) directivesFindUptoCard

/-- THE SECOND FORM's CARD OF 'supergraphlaw25.MovesSound'. -/
def movesSoundUptoCard : Claim7 := { stood := { row := movesSoundUptoRow, standIns := [], harness := (true, "cc66cb2574c15193f19872300e0778b3c5febaf1a1ae4f38eab4892d446fc39c"), looks := false }, kinds := [], alts := [], laidByText := true, laidKinds := [.data, .pinned], laidTests := true, laidLooks := .later }
def MovesSoundUptoCardSaid : Prop := Claim7.holds Tryd.pinned (.plain (OpenSpec.upto movesSoundSpec)) movesSoundUptoCard

/-- THE SECOND FORM's CARD OF 'supergraphlaw25.MovesOrder'. -/
def movesOrderUptoCard : Claim7 := { stood := { row := movesOrderUptoRow, standIns := [], harness := (true, "cc66cb2574c15193f19872300e0778b3c5febaf1a1ae4f38eab4892d446fc39c"), looks := false }, kinds := [], alts := [], laidByText := true, laidKinds := [.data, .pinned], laidTests := true, laidLooks := .later }
def MovesOrderUptoCardSaid : Prop := Claim7.holds Tryd.pinned (.plain (OpenSpec.upto movesOrderSpec)) movesOrderUptoCard

/-- THE SECOND FORM's CARD OF 'supergraphlaw25.MovesAlone'. -/
def movesAloneUptoCard : Claim7 := { stood := { row := movesAloneUptoRow, standIns := [], harness := (true, "cc66cb2574c15193f19872300e0778b3c5febaf1a1ae4f38eab4892d446fc39c"), looks := false }, kinds := [], alts := [], laidByText := true, laidKinds := [.data, .pinned], laidTests := true, laidLooks := .later }
def MovesAloneUptoCardSaid : Prop := Claim7.holds Tryd.pinned (.plain (OpenSpec.upto movesAloneSpec)) movesAloneUptoCard

/-- THE SECOND FORM's CARD OF 'supergraphlaw25.MovesFinds'. -/
def movesFindsUptoCard : Claim7 := { stood := { row := movesFindsUptoRow, standIns := [], harness := (true, "cc66cb2574c15193f19872300e0778b3c5febaf1a1ae4f38eab4892d446fc39c"), looks := false }, kinds := [], alts := [], laidByText := true, laidKinds := [.data, .pinned], laidTests := true, laidLooks := .later }
def MovesFindsUptoCardSaid : Prop := Claim7.holds Tryd.pinned (.plain (OpenSpec.upto movesFindsSpec)) movesFindsUptoCard
end Rows
end Go.Proofs.YtjbpmfglccfkaaaDoor
