/-
  NARROWER THAN 'FOR EVERY INPUT', by the rows' own cells (each row's printed sentence says how): CollectIncluded: loops · CollectFields: loops · CollectLists: loops · CollectTypes: loops.
  DERIVED. THE GIVEN ROWS OF THIS SEAT. 5 by the template 'for every input the law returns true; each argument reads behind the call as it read before'; 0 by the template 'total and deterministic' (their statements: YtachaigkgjadpaaTotals.lean).
  GIVEN WITH THE SEED: the statements are not yours to turn. If you find one false, say at which input.
  Laid BY PROGRAM, IN A SANDBOX (cutbox-rows.mjs): the forced cells as the released guide's own fill.sh prints them over the translation 5e1d75e15c485e11… (all of the seat's roots in one cut). By AI agents, Wed Nov 11 2026. No macro, syntax, notation, axiom, sorry.
-/
import Derived.Test.YtachaigkgjadpaaChecked
import GoSem.Claim
import GoSem.ClaimJoined
import GoSem.ClaimMapViews
import Derived.JoinedTies
import Derived.KernelRfl
namespace Go.Proofs.Ytachaigkgjadpaa
/- THE CELL 'sum', in the pinned program and in every row, IS THE sha256 OF THE DUMP (.gsa) THAT YtachaigkgjadpaaProg.lean LOADS. Nothing in Lean hashes anything: it is a label: what it is worth is what the hold of that sum in a sandbox is worth. -/
noncomputable def Try.pinned : Pinned := { name := "ytachaigkgjadpaa", sum := "5e1d75e15c485e114b168f0ee6b7b97153f75290eca8f79a5c09c8de8139796f", checked := Try.checked }
namespace Rows
def none {H : Type} : Left H := { results := [], args := [] }

/-- 'supergraphlaw18.CollectIncluded': WHATEVER THE INPUT: true; the input reads as it did. -/
def collectIncludedSpec : ChangeSpec := { name := "collectIncluded", fn := fun _ => fun
  | [d1, d2] => { results := [.lit (.bool true)], args := [d1, d2] }
  | _ => none }
def collectIncludedRow : OpenClaim := { program := "ytachaigkgjadpaa", sum := "5e1d75e15c485e114b168f0ee6b7b97153f75290eca8f79a5c09c8de8139796f", func := "supergraph/supergraphlaw18.CollectIncluded", spec := "collectIncluded", unfollowed := true, recurses := true, loops := true, plainKeys := false, apart := false }
def CollectIncludedSaid : Prop := collectIncludedRow.holds Try.pinned (OpenSpec.ofChange collectIncludedSpec)

/-- ITS FALSE NEIGHBOUR: 'it returns false'. Refute it at one input. -/
def collectIncludedWrong : ChangeSpec := { name := "collectIncluded", fn := fun _ => fun
  | [d1, d2] => { results := [.lit (.bool false)], args := [d1, d2] }
  | _ => none }
def CollectIncludedWrongFalsely : Prop := collectIncludedRow.holds Try.pinned (OpenSpec.ofChange collectIncludedWrong)

/-- 'supergraphlaw18.CollectFields': WHATEVER THE INPUT: true; the input reads as it did. -/
def collectFieldsSpec : ChangeSpec := { name := "collectFields", fn := fun _ => fun
  | [d1, d2] => { results := [.lit (.bool true)], args := [d1, d2] }
  | _ => none }
def collectFieldsRow : OpenClaim := { program := "ytachaigkgjadpaa", sum := "5e1d75e15c485e114b168f0ee6b7b97153f75290eca8f79a5c09c8de8139796f", func := "supergraph/supergraphlaw18.CollectFields", spec := "collectFields", unfollowed := true, recurses := true, loops := true, plainKeys := false, apart := false }
def CollectFieldsSaid : Prop := collectFieldsRow.holds Try.pinned (OpenSpec.ofChange collectFieldsSpec)

/-- ITS FALSE NEIGHBOUR: 'it returns false'. Refute it at one input. -/
def collectFieldsWrong : ChangeSpec := { name := "collectFields", fn := fun _ => fun
  | [d1, d2] => { results := [.lit (.bool false)], args := [d1, d2] }
  | _ => none }
def CollectFieldsWrongFalsely : Prop := collectFieldsRow.holds Try.pinned (OpenSpec.ofChange collectFieldsWrong)

/-- 'supergraphlaw18.CollectLabel': WHATEVER THE INPUT: true; the input reads as it did. -/
def collectLabelSpec : ChangeSpec := { name := "collectLabel", fn := fun _ => fun
  | [d] => { results := [.lit (.bool true)], args := [d] }
  | _ => none }
def collectLabelRow : OpenClaim := { program := "ytachaigkgjadpaa", sum := "5e1d75e15c485e114b168f0ee6b7b97153f75290eca8f79a5c09c8de8139796f", func := "supergraph/supergraphlaw18.CollectLabel", spec := "collectLabel", unfollowed := true, recurses := true, plainKeys := false, apart := false }
def CollectLabelSaid : Prop := collectLabelRow.holds Try.pinned (OpenSpec.ofChange collectLabelSpec)

/-- ITS FALSE NEIGHBOUR: 'it returns false'. Refute it at one input. -/
def collectLabelWrong : ChangeSpec := { name := "collectLabel", fn := fun _ => fun
  | [d] => { results := [.lit (.bool false)], args := [d] }
  | _ => none }
def CollectLabelWrongFalsely : Prop := collectLabelRow.holds Try.pinned (OpenSpec.ofChange collectLabelWrong)

/-- 'supergraphlaw18.CollectLists': WHATEVER THE INPUT: true; the input reads as it did. -/
def collectListsSpec : ChangeSpec := { name := "collectLists", fn := fun _ => fun
  | [d1, d2, d3] => { results := [.lit (.bool true)], args := [d1, d2, d3] }
  | _ => none }
def collectListsRow : OpenClaim := { program := "ytachaigkgjadpaa", sum := "5e1d75e15c485e114b168f0ee6b7b97153f75290eca8f79a5c09c8de8139796f", func := "supergraph/supergraphlaw18.CollectLists", spec := "collectLists", unfollowed := true, recurses := true, loops := true, plainKeys := false, apart := false }
def CollectListsSaid : Prop := collectListsRow.holds Try.pinned (OpenSpec.ofChange collectListsSpec)

/-- ITS FALSE NEIGHBOUR: 'it returns false'. Refute it at one input. -/
def collectListsWrong : ChangeSpec := { name := "collectLists", fn := fun _ => fun
  | [d1, d2, d3] => { results := [.lit (.bool false)], args := [d1, d2, d3] }
  | _ => none }
def CollectListsWrongFalsely : Prop := collectListsRow.holds Try.pinned (OpenSpec.ofChange collectListsWrong)

/-- 'supergraphlaw18.CollectTypes': WHATEVER THE INPUT: true; the input reads as it did. -/
def collectTypesSpec : ChangeSpec := { name := "collectTypes", fn := fun _ => fun
  | [d1, d2, d3] => { results := [.lit (.bool true)], args := [d1, d2, d3] }
  | _ => none }
def collectTypesRow : OpenClaim := { program := "ytachaigkgjadpaa", sum := "5e1d75e15c485e114b168f0ee6b7b97153f75290eca8f79a5c09c8de8139796f", func := "supergraph/supergraphlaw18.CollectTypes", spec := "collectTypes", unfollowed := true, recurses := true, loops := true, plainKeys := false, apart := false }
def CollectTypesSaid : Prop := collectTypesRow.holds Try.pinned (OpenSpec.ofChange collectTypesSpec)

/-- ITS FALSE NEIGHBOUR: 'it returns false'. Refute it at one input. -/
def collectTypesWrong : ChangeSpec := { name := "collectTypes", fn := fun _ => fun
  | [d1, d2, d3] => { results := [.lit (.bool false)], args := [d1, d2, d3] }
  | _ => none }
def CollectTypesWrongFalsely : Prop := collectTypesRow.holds Try.pinned (OpenSpec.ofChange collectTypesWrong)

/- THE SECOND FORM. 'bulk': how many values and letters a reading holds, each counted each time it is reached (what is shared counts as often as it is met; a slice's spare places count too). A statement '..UptoSaid' is the law's where the arguments, and the package variables that the reading takes, are together of bulk at most 1048576: NARROWER than '..Said'. Prove '..Said' where nothing that the law and all that it calls make is longer than what came in: it says more and counts as full. Else prove '..UptoSaid'. A law counts once. -/
mutual
def uptoBulk {H : Type} : DataW H → Nat
  | .lit (.string bytes) => bytes.length + 1
  | .lit _ => 1
  | .nil => 1
  | .ptr d => uptoBulk d + 1
  | .slice elems spare => uptoBulkAll elems + uptoBulkAll spare + 1
  | .agg parts => uptoBulkAll parts + 1
  | .iface _ d => uptoBulk d + 1
  | .map entries => uptoBulkEntries entries + 1
  | .held _ => 1
def uptoBulkAll {H : Type} : List (DataW H) → Nat
  | [] => 0
  | d :: r => uptoBulk d + uptoBulkAll r
def uptoBulkEntries {H : Type} : List (Lit × DataW H) → Nat
  | [] => 0
  | x :: r => uptoBulkEntry x + uptoBulkEntries r
def uptoBulkEntry {H : Type} : Lit × DataW H → Nat
  | (.string bytes, d) => bytes.length + uptoBulk d + 1
  | (_, d) => uptoBulk d + 1
 end
def uptoSmall : (H : Type) → List (DataW H) → Bool := fun _ ds => decide (uptoBulkAll ds ≤ 1048576)
def OpenSpec.upto (s : _root_.Go.ChangeSpec) : _root_.Go.OpenSpec := { _root_.Go.OpenSpec.ofChange s with cond := some uptoSmall }

/-- 'supergraphlaw18.CollectIncluded', WHERE WHAT IT READS IS OF BULK AT MOST 1048576: true; the input reads as it did. -/
def collectIncludedUptoRow : OpenClaim := { program := "ytachaigkgjadpaa", sum := "5e1d75e15c485e114b168f0ee6b7b97153f75290eca8f79a5c09c8de8139796f", func := "supergraph/supergraphlaw18.CollectIncluded", spec := "collectIncluded", unfollowed := true, recurses := true, loops := true, plainKeys := false, apart := false, narrowed := true }
def CollectIncludedUptoSaid : Prop := collectIncludedUptoRow.holds Try.pinned (OpenSpec.upto collectIncludedSpec)

/-- 'supergraphlaw18.CollectFields', WHERE WHAT IT READS IS OF BULK AT MOST 1048576: true; the input reads as it did. -/
def collectFieldsUptoRow : OpenClaim := { program := "ytachaigkgjadpaa", sum := "5e1d75e15c485e114b168f0ee6b7b97153f75290eca8f79a5c09c8de8139796f", func := "supergraph/supergraphlaw18.CollectFields", spec := "collectFields", unfollowed := true, recurses := true, loops := true, plainKeys := false, apart := false, narrowed := true }
def CollectFieldsUptoSaid : Prop := collectFieldsUptoRow.holds Try.pinned (OpenSpec.upto collectFieldsSpec)

/-- 'supergraphlaw18.CollectLabel', WHERE WHAT IT READS IS OF BULK AT MOST 1048576: true; the input reads as it did. -/
def collectLabelUptoRow : OpenClaim := { program := "ytachaigkgjadpaa", sum := "5e1d75e15c485e114b168f0ee6b7b97153f75290eca8f79a5c09c8de8139796f", func := "supergraph/supergraphlaw18.CollectLabel", spec := "collectLabel", unfollowed := true, recurses := true, plainKeys := false, apart := false, narrowed := true }
def CollectLabelUptoSaid : Prop := collectLabelUptoRow.holds Try.pinned (OpenSpec.upto collectLabelSpec)

/-- 'supergraphlaw18.CollectLists', WHERE WHAT IT READS IS OF BULK AT MOST 1048576: true; the input reads as it did. -/
def collectListsUptoRow : OpenClaim := { program := "ytachaigkgjadpaa", sum := "5e1d75e15c485e114b168f0ee6b7b97153f75290eca8f79a5c09c8de8139796f", func := "supergraph/supergraphlaw18.CollectLists", spec := "collectLists", unfollowed := true, recurses := true, loops := true, plainKeys := false, apart := false, narrowed := true }
def CollectListsUptoSaid : Prop := collectListsUptoRow.holds Try.pinned (OpenSpec.upto collectListsSpec)

/-- 'supergraphlaw18.CollectTypes', WHERE WHAT IT READS IS OF BULK AT MOST 1048576: true; the input reads as it did. -/
def collectTypesUptoRow : OpenClaim := { program := "ytachaigkgjadpaa", sum := "5e1d75e15c485e114b168f0ee6b7b97153f75290eca8f79a5c09c8de8139796f", func := "supergraph/supergraphlaw18.CollectTypes", spec := "collectTypes", unfollowed := true, recurses := true, loops := true, plainKeys := false, apart := false, narrowed := true }
def CollectTypesUptoSaid : Prop := collectTypesUptoRow.holds Try.pinned (OpenSpec.upto collectTypesSpec)

end Rows
end Go.Proofs.Ytachaigkgjadpaa
