/-
  NARROWER THAN 'FOR EVERY INPUT', by the rows' own cells (each row's printed sentence says how): DirectivesSets: laid · DirectivesCheck: loops, laid · DirectivesUnknown: loops, laid · DirectivesPublic: loops, laid · DirectivesFind: loops, laid · MovesSound: loops, laid · MovesOrder: loops, laid · MovesAlone: loops, laid · MovesFinds: loops, laid.
  DERIVED. THE GIVEN ROWS OF THIS SEAT. 9 by the template 'for every input the law returns true; each argument reads behind the call as it read before'; 0 by the template 'total and deterministic' (their statements: YtjbpmfglccfkaaaDoorTotals.lean).
  GIVEN WITH THE SEED: the statements are not yours to turn. If you find one false, say at which input.
  Laid BY PROGRAM, IN A SANDBOX (cutbox-rows.mjs): the forced cells as the released guide's own fill.sh prints them over the translation 584befec4145c745… (all of the seat's roots in one cut). By AI agents, Wed Nov 11 2026. No macro, syntax, notation, axiom, sorry.
-/
import Derived.Test.YtjbpmfglccfkaaaDoorChecked
import GoSem.PinnedTables
import GoSem.Claim
import GoSem.ClaimJoined
import GoSem.ClaimMapViews
import Derived.JoinedTies
import Derived.KernelRfl
namespace Go.Proofs.YtjbpmfglccfkaaaDoor
/- THE CELL 'sum', in the pinned program and in every row, IS THE sha256 OF THE DUMP (.gsa) THAT YtjbpmfglccfkaaaDoorProg.lean LOADS. Nothing in Lean hashes anything: it is a label: what it is worth is what the hold of that sum in a sandbox is worth. -/
noncomputable def Tryd.pinned : Pinned := { name := "ytjbpmfglccfkaaadoor", sum := "584befec4145c74578042e9e9174bd2bd955d33f8830f1cd336fe24767cae44a", checked := Tryd.checked }
namespace Rows
def none {H : Type} : Left H := { results := [], args := [] }

/- WHAT THE LISTED PACKAGE-LEVEL VARIABLES READ AS WHEN THE CALL BEGINS. Each datum BY PROGRAM (the guide's laid-datum.mjs) off the statement by which the dump's own 'gosem.cut.vars' lays the variable. In a bare row this is a premise. The card (YtjbpmfglccfkaaaDoorCards.lean) ties it to the program's text. -/
def laid_unicode_utf8_acceptRanges {H : Type} : DataW H := .agg [.agg [.lit (.int .u8 128), .lit (.int .u8 191)], .agg [.lit (.int .u8 160), .lit (.int .u8 191)], .agg [.lit (.int .u8 128), .lit (.int .u8 159)], .agg [.lit (.int .u8 144), .lit (.int .u8 191)], .agg [.lit (.int .u8 128), .lit (.int .u8 143)], .agg [.lit (.int .u8 0), .lit (.int .u8 0)], .agg [.lit (.int .u8 0), .lit (.int .u8 0)], .agg [.lit (.int .u8 0), .lit (.int .u8 0)], .agg [.lit (.int .u8 0), .lit (.int .u8 0)], .agg [.lit (.int .u8 0), .lit (.int .u8 0)], .agg [.lit (.int .u8 0), .lit (.int .u8 0)], .agg [.lit (.int .u8 0), .lit (.int .u8 0)], .agg [.lit (.int .u8 0), .lit (.int .u8 0)], .agg [.lit (.int .u8 0), .lit (.int .u8 0)], .agg [.lit (.int .u8 0), .lit (.int .u8 0)], .agg [.lit (.int .u8 0), .lit (.int .u8 0)]]
/-- One of Go's own tables, pinned by name: the form's constant. -/
def laid_unicode_utf8_first : DataW Unit := Go.Pinned.utf8First

/-- 'supergraphlaw23.DirectivesSets': WHATEVER THE INPUT: true; the input reads as it did. -/
def directivesSetsSpec : ChangeSpec := { name := "directivesSets", fn := fun _ => fun
  | [d] => { results := [.lit (.bool true)], args := [d] }
  | _ => none }
def directivesSetsRow : OpenClaim := { program := "ytjbpmfglccfkaaadoor", sum := "584befec4145c74578042e9e9174bd2bd955d33f8830f1cd336fe24767cae44a", func := "supergraph/supergraphlaw23.DirectivesSets", spec := "directivesSets", inPlace := ["internal/bytealg.CountString", "internal/bytealg.IndexByteString", "internal/bytealg.IndexString"], unfollowed := true, recurses := true, named := ["unicode/utf8.first", "unicode/utf8.acceptRanges", "internal/bytealg.MaxLen"], apart := false, laid := [("unicode/utf8.acceptRanges", laid_unicode_utf8_acceptRanges), ("unicode/utf8.first", laid_unicode_utf8_first)] }
def DirectivesSetsSaid : Prop := directivesSetsRow.holds Tryd.pinned (OpenSpec.ofChange directivesSetsSpec)

/-- ITS FALSE NEIGHBOUR: 'it returns false'. Refute it at one input. -/
def directivesSetsWrong : ChangeSpec := { name := "directivesSets", fn := fun _ => fun
  | [d] => { results := [.lit (.bool false)], args := [d] }
  | _ => none }
def DirectivesSetsWrongFalsely : Prop := directivesSetsRow.holds Tryd.pinned (OpenSpec.ofChange directivesSetsWrong)

/-- 'supergraphlaw23.DirectivesCheck': WHATEVER THE INPUT: true; the input reads as it did. -/
def directivesCheckSpec : ChangeSpec := { name := "directivesCheck", fn := fun _ => fun
  | [d] => { results := [.lit (.bool true)], args := [d] }
  | _ => none }
def directivesCheckRow : OpenClaim := { program := "ytjbpmfglccfkaaadoor", sum := "584befec4145c74578042e9e9174bd2bd955d33f8830f1cd336fe24767cae44a", func := "supergraph/supergraphlaw23.DirectivesCheck", spec := "directivesCheck", inPlace := ["internal/bytealg.CountString", "internal/bytealg.IndexByteString", "internal/bytealg.IndexString"], unfollowed := true, recurses := true, named := ["unicode/utf8.first", "unicode/utf8.acceptRanges", "internal/bytealg.MaxLen"], loops := true, apart := false, laid := [("unicode/utf8.acceptRanges", laid_unicode_utf8_acceptRanges), ("unicode/utf8.first", laid_unicode_utf8_first)] }
def DirectivesCheckSaid : Prop := directivesCheckRow.holds Tryd.pinned (OpenSpec.ofChange directivesCheckSpec)

/-- ITS FALSE NEIGHBOUR: 'it returns false'. Refute it at one input. -/
def directivesCheckWrong : ChangeSpec := { name := "directivesCheck", fn := fun _ => fun
  | [d] => { results := [.lit (.bool false)], args := [d] }
  | _ => none }
def DirectivesCheckWrongFalsely : Prop := directivesCheckRow.holds Tryd.pinned (OpenSpec.ofChange directivesCheckWrong)

/-- 'supergraphlaw23.DirectivesUnknown': WHATEVER THE INPUT: true; the input reads as it did. -/
def directivesUnknownSpec : ChangeSpec := { name := "directivesUnknown", fn := fun _ => fun
  | [d1, d2, d3] => { results := [.lit (.bool true)], args := [d1, d2, d3] }
  | _ => none }
def directivesUnknownRow : OpenClaim := { program := "ytjbpmfglccfkaaadoor", sum := "584befec4145c74578042e9e9174bd2bd955d33f8830f1cd336fe24767cae44a", func := "supergraph/supergraphlaw23.DirectivesUnknown", spec := "directivesUnknown", inPlace := ["internal/bytealg.CountString", "internal/bytealg.IndexByteString", "internal/bytealg.IndexString"], unfollowed := true, recurses := true, named := ["unicode/utf8.first", "unicode/utf8.acceptRanges", "internal/bytealg.MaxLen"], loops := true, apart := false, laid := [("unicode/utf8.acceptRanges", laid_unicode_utf8_acceptRanges), ("unicode/utf8.first", laid_unicode_utf8_first)] }
def DirectivesUnknownSaid : Prop := directivesUnknownRow.holds Tryd.pinned (OpenSpec.ofChange directivesUnknownSpec)

/-- ITS FALSE NEIGHBOUR: 'it returns false'. Refute it at one input. -/
def directivesUnknownWrong : ChangeSpec := { name := "directivesUnknown", fn := fun _ => fun
  | [d1, d2, d3] => { results := [.lit (.bool false)], args := [d1, d2, d3] }
  | _ => none }
def DirectivesUnknownWrongFalsely : Prop := directivesUnknownRow.holds Tryd.pinned (OpenSpec.ofChange directivesUnknownWrong)

/-- 'supergraphlaw23.DirectivesPublic': WHATEVER THE INPUT: true; the input reads as it did. -/
def directivesPublicSpec : ChangeSpec := { name := "directivesPublic", fn := fun _ => fun
  | [d1, d2] => { results := [.lit (.bool true)], args := [d1, d2] }
  | _ => none }
def directivesPublicRow : OpenClaim := { program := "ytjbpmfglccfkaaadoor", sum := "584befec4145c74578042e9e9174bd2bd955d33f8830f1cd336fe24767cae44a", func := "supergraph/supergraphlaw23.DirectivesPublic", spec := "directivesPublic", inPlace := ["internal/bytealg.CountString", "internal/bytealg.IndexByteString", "internal/bytealg.IndexString"], unfollowed := true, recurses := true, named := ["unicode/utf8.first", "unicode/utf8.acceptRanges", "internal/bytealg.MaxLen"], loops := true, apart := false, laid := [("unicode/utf8.acceptRanges", laid_unicode_utf8_acceptRanges), ("unicode/utf8.first", laid_unicode_utf8_first)] }
def DirectivesPublicSaid : Prop := directivesPublicRow.holds Tryd.pinned (OpenSpec.ofChange directivesPublicSpec)

/-- ITS FALSE NEIGHBOUR: 'it returns false'. Refute it at one input. -/
def directivesPublicWrong : ChangeSpec := { name := "directivesPublic", fn := fun _ => fun
  | [d1, d2] => { results := [.lit (.bool false)], args := [d1, d2] }
  | _ => none }
def DirectivesPublicWrongFalsely : Prop := directivesPublicRow.holds Tryd.pinned (OpenSpec.ofChange directivesPublicWrong)

/-- 'supergraphlaw23.DirectivesFind': WHATEVER THE INPUT: true; the input reads as it did. -/
def directivesFindSpec : ChangeSpec := { name := "directivesFind", fn := fun _ => fun
  | [d1, d2, d3] => { results := [.lit (.bool true)], args := [d1, d2, d3] }
  | _ => none }
def directivesFindRow : OpenClaim := { program := "ytjbpmfglccfkaaadoor", sum := "584befec4145c74578042e9e9174bd2bd955d33f8830f1cd336fe24767cae44a", func := "supergraph/supergraphlaw23.DirectivesFind", spec := "directivesFind", inPlace := ["internal/bytealg.CountString", "internal/bytealg.IndexByteString", "internal/bytealg.IndexString"], unfollowed := true, recurses := true, named := ["unicode/utf8.first", "unicode/utf8.acceptRanges", "internal/bytealg.MaxLen"], loops := true, apart := false, laid := [("unicode/utf8.acceptRanges", laid_unicode_utf8_acceptRanges), ("unicode/utf8.first", laid_unicode_utf8_first)] }
def DirectivesFindSaid : Prop := directivesFindRow.holds Tryd.pinned (OpenSpec.ofChange directivesFindSpec)

/-- ITS FALSE NEIGHBOUR: 'it returns false'. Refute it at one input. -/
def directivesFindWrong : ChangeSpec := { name := "directivesFind", fn := fun _ => fun
  | [d1, d2, d3] => { results := [.lit (.bool false)], args := [d1, d2, d3] }
  | _ => none }
def DirectivesFindWrongFalsely : Prop := directivesFindRow.holds Tryd.pinned (OpenSpec.ofChange directivesFindWrong)

/-- 'supergraphlaw25.MovesSound': WHATEVER THE INPUT: true; the input reads as it did. -/
def movesSoundSpec : ChangeSpec := { name := "movesSound", fn := fun _ => fun
  | [d] => { results := [.lit (.bool true)], args := [d] }
  | _ => none }
def movesSoundRow : OpenClaim := { program := "ytjbpmfglccfkaaadoor", sum := "584befec4145c74578042e9e9174bd2bd955d33f8830f1cd336fe24767cae44a", func := "supergraph/supergraphlaw25.MovesSound", spec := "movesSound", inPlace := ["internal/bytealg.CountString", "internal/bytealg.IndexByteString", "internal/bytealg.IndexString"], unfollowed := true, recurses := true, named := ["unicode/utf8.first", "unicode/utf8.acceptRanges", "internal/bytealg.MaxLen"], loops := true, apart := false, laid := [("unicode/utf8.acceptRanges", laid_unicode_utf8_acceptRanges), ("unicode/utf8.first", laid_unicode_utf8_first)] }
def MovesSoundSaid : Prop := movesSoundRow.holds Tryd.pinned (OpenSpec.ofChange movesSoundSpec)

/-- ITS FALSE NEIGHBOUR: 'it returns false'. Refute it at one input. -/
def movesSoundWrong : ChangeSpec := { name := "movesSound", fn := fun _ => fun
  | [d] => { results := [.lit (.bool false)], args := [d] }
  | _ => none }
def MovesSoundWrongFalsely : Prop := movesSoundRow.holds Tryd.pinned (OpenSpec.ofChange movesSoundWrong)

/-- 'supergraphlaw25.MovesOrder': WHATEVER THE INPUT: true; the input reads as it did. -/
def movesOrderSpec : ChangeSpec := { name := "movesOrder", fn := fun _ => fun
  | [d] => { results := [.lit (.bool true)], args := [d] }
  | _ => none }
def movesOrderRow : OpenClaim := { program := "ytjbpmfglccfkaaadoor", sum := "584befec4145c74578042e9e9174bd2bd955d33f8830f1cd336fe24767cae44a", func := "supergraph/supergraphlaw25.MovesOrder", spec := "movesOrder", inPlace := ["internal/bytealg.CountString", "internal/bytealg.IndexByteString", "internal/bytealg.IndexString"], unfollowed := true, recurses := true, named := ["unicode/utf8.first", "unicode/utf8.acceptRanges", "internal/bytealg.MaxLen"], loops := true, apart := false, laid := [("unicode/utf8.acceptRanges", laid_unicode_utf8_acceptRanges), ("unicode/utf8.first", laid_unicode_utf8_first)] }
def MovesOrderSaid : Prop := movesOrderRow.holds Tryd.pinned (OpenSpec.ofChange movesOrderSpec)

/-- ITS FALSE NEIGHBOUR: 'it returns false'. Refute it at one input. -/
def movesOrderWrong : ChangeSpec := { name := "movesOrder", fn := fun _ => fun
  | [d] => { results := [.lit (.bool false)], args := [d] }
  | _ => none }
def MovesOrderWrongFalsely : Prop := movesOrderRow.holds Tryd.pinned (OpenSpec.ofChange movesOrderWrong)

/-- 'supergraphlaw25.MovesAlone': WHATEVER THE INPUT: true; the input reads as it did. -/
def movesAloneSpec : ChangeSpec := { name := "movesAlone", fn := fun _ => fun
  | [d] => { results := [.lit (.bool true)], args := [d] }
  | _ => none }
def movesAloneRow : OpenClaim := { program := "ytjbpmfglccfkaaadoor", sum := "584befec4145c74578042e9e9174bd2bd955d33f8830f1cd336fe24767cae44a", func := "supergraph/supergraphlaw25.MovesAlone", spec := "movesAlone", inPlace := ["internal/bytealg.CountString", "internal/bytealg.IndexByteString", "internal/bytealg.IndexString"], unfollowed := true, recurses := true, named := ["unicode/utf8.first", "unicode/utf8.acceptRanges", "internal/bytealg.MaxLen"], loops := true, apart := false, laid := [("unicode/utf8.acceptRanges", laid_unicode_utf8_acceptRanges), ("unicode/utf8.first", laid_unicode_utf8_first)] }
def MovesAloneSaid : Prop := movesAloneRow.holds Tryd.pinned (OpenSpec.ofChange movesAloneSpec)

/-- ITS FALSE NEIGHBOUR: 'it returns false'. Refute it at one input. -/
def movesAloneWrong : ChangeSpec := { name := "movesAlone", fn := fun _ => fun
  | [d] => { results := [.lit (.bool false)], args := [d] }
  | _ => none }
def MovesAloneWrongFalsely : Prop := movesAloneRow.holds Tryd.pinned (OpenSpec.ofChange movesAloneWrong)

/-- 'supergraphlaw25.MovesFinds': WHATEVER THE INPUT: true; the input reads as it did. -/
def movesFindsSpec : ChangeSpec := { name := "movesFinds", fn := fun _ => fun
  | [d1, d2, d3, d4] => { results := [.lit (.bool true)], args := [d1, d2, d3, d4] }
  | _ => none }
def movesFindsRow : OpenClaim := { program := "ytjbpmfglccfkaaadoor", sum := "584befec4145c74578042e9e9174bd2bd955d33f8830f1cd336fe24767cae44a", func := "supergraph/supergraphlaw25.MovesFinds", spec := "movesFinds", inPlace := ["internal/bytealg.CountString", "internal/bytealg.IndexByteString", "internal/bytealg.IndexString"], unfollowed := true, recurses := true, named := ["unicode/utf8.first", "unicode/utf8.acceptRanges", "internal/bytealg.MaxLen"], loops := true, apart := false, laid := [("unicode/utf8.acceptRanges", laid_unicode_utf8_acceptRanges), ("unicode/utf8.first", laid_unicode_utf8_first)] }
def MovesFindsSaid : Prop := movesFindsRow.holds Tryd.pinned (OpenSpec.ofChange movesFindsSpec)

/-- ITS FALSE NEIGHBOUR: 'it returns false'. Refute it at one input. -/
def movesFindsWrong : ChangeSpec := { name := "movesFinds", fn := fun _ => fun
  | [d1, d2, d3, d4] => { results := [.lit (.bool false)], args := [d1, d2, d3, d4] }
  | _ => none }
def MovesFindsWrongFalsely : Prop := movesFindsRow.holds Tryd.pinned (OpenSpec.ofChange movesFindsWrong)

/- THE SECOND FORM. 'bulk': how many values and letters a reading holds, each counted each time it is reached (what is shared counts as often as it is met; a slice's spare places count too). A statement '..UptoSaid' is the law's where the arguments, and the package variables that the reading takes, are together of bulk at most 1048576: NARROWER than '..Said'. Prove '..Said' where nothing that the law and all that it calls make is longer than what came in: it says more and counts as full. Else prove '..UptoSaid'. A law counts once. -/
mutual
def uptoBulk {H : Type} : DataW H → Nat
  | .lit (.string bytes) => bytes.length + 1
  | .lit _ => 1
  | .nil => 1
  | .ptr d => uptoBulk d + 1
  | .slice elems spare => uptoBulkAll elems + uptoBulkAll spare + 1
  | .agg parts => uptoBulkAll parts + 1
  | .iface _ d => uptoBulk d + 1
  | .map entries => uptoBulkEntries entries + 1
  | .held _ => 1
def uptoBulkAll {H : Type} : List (DataW H) → Nat
  | [] => 0
  | d :: r => uptoBulk d + uptoBulkAll r
def uptoBulkEntries {H : Type} : List (Lit × DataW H) → Nat
  | [] => 0
  | x :: r => uptoBulkEntry x + uptoBulkEntries r
def uptoBulkEntry {H : Type} : Lit × DataW H → Nat
  | (.string bytes, d) => bytes.length + uptoBulk d + 1
  | (_, d) => uptoBulk d + 1
 end
def uptoSmall : (H : Type) → List (DataW H) → Bool := fun _ ds => decide (uptoBulkAll ds ≤ 1048576)
def OpenSpec.upto (s : _root_.Go.ChangeSpec) : _root_.Go.OpenSpec := { _root_.Go.OpenSpec.ofChange s with cond := some uptoSmall }

/-- 'supergraphlaw23.DirectivesSets', WHERE WHAT IT READS IS OF BULK AT MOST 1048576: true; the input reads as it did. -/
def directivesSetsUptoRow : OpenClaim := { program := "ytjbpmfglccfkaaadoor", sum := "584befec4145c74578042e9e9174bd2bd955d33f8830f1cd336fe24767cae44a", func := "supergraph/supergraphlaw23.DirectivesSets", spec := "directivesSets", inPlace := ["internal/bytealg.CountString", "internal/bytealg.IndexByteString", "internal/bytealg.IndexString"], unfollowed := true, recurses := true, named := ["unicode/utf8.first", "unicode/utf8.acceptRanges", "internal/bytealg.MaxLen"], apart := false, laid := [("unicode/utf8.acceptRanges", laid_unicode_utf8_acceptRanges), ("unicode/utf8.first", laid_unicode_utf8_first)], narrowed := true }
def DirectivesSetsUptoSaid : Prop := directivesSetsUptoRow.holds Tryd.pinned (OpenSpec.upto directivesSetsSpec)

/-- 'supergraphlaw23.DirectivesCheck', WHERE WHAT IT READS IS OF BULK AT MOST 1048576: true; the input reads as it did. -/
def directivesCheckUptoRow : OpenClaim := { program := "ytjbpmfglccfkaaadoor", sum := "584befec4145c74578042e9e9174bd2bd955d33f8830f1cd336fe24767cae44a", func := "supergraph/supergraphlaw23.DirectivesCheck", spec := "directivesCheck", inPlace := ["internal/bytealg.CountString", "internal/bytealg.IndexByteString", "internal/bytealg.IndexString"], unfollowed := true, recurses := true, named := ["unicode/utf8.first", "unicode/utf8.acceptRanges", "internal/bytealg.MaxLen"], loops := true, apart := false, laid := [("unicode/utf8.acceptRanges", laid_unicode_utf8_acceptRanges), ("unicode/utf8.first", laid_unicode_utf8_first)], narrowed := true }
def DirectivesCheckUptoSaid : Prop := directivesCheckUptoRow.holds Tryd.pinned (OpenSpec.upto directivesCheckSpec)

/-- 'supergraphlaw23.DirectivesUnknown', WHERE WHAT IT READS IS OF BULK AT MOST 1048576: true; the input reads as it did. -/
def directivesUnknownUptoRow : OpenClaim := { program := "ytjbpmfglccfkaaadoor", sum := "584befec4145c74578042e9e9174bd2bd955d33f8830f1cd336fe24767cae44a", func := "supergraph/supergraphlaw23.DirectivesUnknown", spec := "directivesUnknown", inPlace := ["internal/bytealg.CountString", "internal/bytealg.IndexByteString", "internal/bytealg.IndexString"], unfollowed := true, recurses := true, named := ["unicode/utf8.first", "unicode/utf8.acceptRanges", "internal/bytealg.MaxLen"], loops := true, apart := false, laid := [("unicode/utf8.acceptRanges", laid_unicode_utf8_acceptRanges), ("unicode/utf8.first", laid_unicode_utf8_first)], narrowed := true }
def DirectivesUnknownUptoSaid : Prop := directivesUnknownUptoRow.holds Tryd.pinned (OpenSpec.upto directivesUnknownSpec)

/-- 'supergraphlaw23.DirectivesPublic', WHERE WHAT IT READS IS OF BULK AT MOST 1048576: true; the input reads as it did. -/
def directivesPublicUptoRow : OpenClaim := { program := "ytjbpmfglccfkaaadoor", sum := "584befec4145c74578042e9e9174bd2bd955d33f8830f1cd336fe24767cae44a", func := "supergraph/supergraphlaw23.DirectivesPublic", spec := "directivesPublic", inPlace := ["internal/bytealg.CountString", "internal/bytealg.IndexByteString", "internal/bytealg.IndexString"], unfollowed := true, recurses := true, named := ["unicode/utf8.first", "unicode/utf8.acceptRanges", "internal/bytealg.MaxLen"], loops := true, apart := false, laid := [("unicode/utf8.acceptRanges", laid_unicode_utf8_acceptRanges), ("unicode/utf8.first", laid_unicode_utf8_first)], narrowed := true }
def DirectivesPublicUptoSaid : Prop := directivesPublicUptoRow.holds Tryd.pinned (OpenSpec.upto directivesPublicSpec)

/-- 'supergraphlaw23.DirectivesFind', WHERE WHAT IT READS IS OF BULK AT MOST 1048576: true; the input reads as it did. -/
def directivesFindUptoRow : OpenClaim := { program := "ytjbpmfglccfkaaadoor", sum := "584befec4145c74578042e9e9174bd2bd955d33f8830f1cd336fe24767cae44a", func := "supergraph/supergraphlaw23.DirectivesFind", spec := "directivesFind", inPlace := ["internal/bytealg.CountString", "internal/bytealg.IndexByteString", "internal/bytealg.IndexString"], unfollowed := true, recurses := true, named := ["unicode/utf8.first", "unicode/utf8.acceptRanges", "internal/bytealg.MaxLen"], loops := true, apart := false, laid := [("unicode/utf8.acceptRanges", laid_unicode_utf8_acceptRanges), ("unicode/utf8.first", laid_unicode_utf8_first)], narrowed := true }
def DirectivesFindUptoSaid : Prop := directivesFindUptoRow.holds Tryd.pinned (OpenSpec.upto directivesFindSpec)

/-- 'supergraphlaw25.MovesSound', WHERE WHAT IT READS IS OF BULK AT MOST 1048576: true; the input reads as it did. -/
def movesSoundUptoRow : OpenClaim := { program := "ytjbpmfglccfkaaadoor", sum := "584befec4145c74578042e9e9174bd2bd955d33f8830f1cd336fe24767cae44a", func := "supergraph/supergraphlaw25.MovesSound", spec := "movesSound", inPlace := ["internal/bytealg.CountString", "internal/bytealg.IndexByteString", "internal/bytealg.IndexString"], unfollowed := true, recurses := true, named := ["unicode/utf8.first", "unicode/utf8.acceptRanges", "internal/bytealg.MaxLen"], loops := true, apart := false, laid := [("unicode/utf8.acceptRanges", laid_unicode_utf8_acceptRanges), ("unicode/utf8.first", laid_unicode_utf8_first)], narrowed := true }
def MovesSoundUptoSaid : Prop := movesSoundUptoRow.holds Tryd.pinned (OpenSpec.upto movesSoundSpec)

/-- 'supergraphlaw25.MovesOrder', WHERE WHAT IT READS IS OF BULK AT MOST 1048576: true; the input reads as it did. -/
def movesOrderUptoRow : OpenClaim := { program := "ytjbpmfglccfkaaadoor", sum := "584befec4145c74578042e9e9174bd2bd955d33f8830f1cd336fe24767cae44a", func := "supergraph/supergraphlaw25.MovesOrder", spec := "movesOrder", inPlace := ["internal/bytealg.CountString", "internal/bytealg.IndexByteString", "internal/bytealg.IndexString"], unfollowed := true, recurses := true, named := ["unicode/utf8.first", "unicode/utf8.acceptRanges", "internal/bytealg.MaxLen"], loops := true, apart := false, laid := [("unicode/utf8.acceptRanges", laid_unicode_utf8_acceptRanges), ("unicode/utf8.first", laid_unicode_utf8_first)], narrowed := true }
def MovesOrderUptoSaid : Prop := movesOrderUptoRow.holds Tryd.pinned (OpenSpec.upto movesOrderSpec)

/-- 'supergraphlaw25.MovesAlone', WHERE WHAT IT READS IS OF BULK AT MOST 1048576: true; the input reads as it did. -/
def movesAloneUptoRow : OpenClaim := { program := "ytjbpmfglccfkaaadoor", sum := "584befec4145c74578042e9e9174bd2bd955d33f8830f1cd336fe24767cae44a", func := "supergraph/supergraphlaw25.MovesAlone", spec := "movesAlone", inPlace := ["internal/bytealg.CountString", "internal/bytealg.IndexByteString", "internal/bytealg.IndexString"], unfollowed := true, recurses := true, named := ["unicode/utf8.first", "unicode/utf8.acceptRanges", "internal/bytealg.MaxLen"], loops := true, apart := false, laid := [("unicode/utf8.acceptRanges", laid_unicode_utf8_acceptRanges), ("unicode/utf8.first", laid_unicode_utf8_first)], narrowed := true }
def MovesAloneUptoSaid : Prop := movesAloneUptoRow.holds Tryd.pinned (OpenSpec.upto movesAloneSpec)

/-- 'supergraphlaw25.MovesFinds', WHERE WHAT IT READS IS OF BULK AT MOST 1048576: true; the input reads as it did. -/
def movesFindsUptoRow : OpenClaim := { program := "ytjbpmfglccfkaaadoor", sum := "584befec4145c74578042e9e9174bd2bd955d33f8830f1cd336fe24767cae44a", func := "supergraph/supergraphlaw25.MovesFinds", spec := "movesFinds", inPlace := ["internal/bytealg.CountString", "internal/bytealg.IndexByteString", "internal/bytealg.IndexString"], unfollowed := true, recurses := true, named := ["unicode/utf8.first", "unicode/utf8.acceptRanges", "internal/bytealg.MaxLen"], loops := true, apart := false, laid := [("unicode/utf8.acceptRanges", laid_unicode_utf8_acceptRanges), ("unicode/utf8.first", laid_unicode_utf8_first)], narrowed := true }
def MovesFindsUptoSaid : Prop := movesFindsUptoRow.holds Tryd.pinned (OpenSpec.upto movesFindsSpec)

end Rows
end Go.Proofs.YtjbpmfglccfkaaaDoor
