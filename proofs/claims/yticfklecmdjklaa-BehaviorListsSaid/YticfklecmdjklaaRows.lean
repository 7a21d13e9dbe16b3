/-
  No cell of these rows narrows 'for every input' (looked for: loops, veiled, ifaces, maps, wideKeys, modest, calm, conditions, laid).
  DERIVED. THE GIVEN ROWS OF THIS SEAT. 5 by the template 'for every input the law returns true; each argument reads behind the call as it read before'; 0 by the template 'total and deterministic' (their statements: YticfklecmdjklaaTotals.lean).
  GIVEN WITH THE SEED: the statements are not yours to turn. If you find one false, say at which input.
  Laid BY PROGRAM, IN A SANDBOX (cutbox-rows.mjs): the forced cells as the released guide's own fill.sh prints them over the translation 4d0529ed055e1521… (all of the seat's roots in one cut). By AI agents, Wed Nov 11 2026. No macro, syntax, notation, axiom, sorry.
-/
import Derived.Test.YticfklecmdjklaaChecked
import GoSem.Claim
import GoSem.ClaimJoined
import GoSem.ClaimMapViews
import Derived.JoinedTies
import Derived.KernelRfl
namespace Go.Proofs.Yticfklecmdjklaa
/- THE CELL 'sum', in the pinned program and in every row, IS THE sha256 OF THE DUMP (.gsa) THAT YticfklecmdjklaaProg.lean LOADS. Nothing in Lean hashes anything: it is a label: what it is worth is what the hold of that sum in a sandbox is worth. -/
noncomputable def Try.pinned : Pinned := { name := "yticfklecmdjklaa", sum := "4d0529ed055e1521b64ce6df9060c7f424c3cc5f61bfe9da22d7a783ad057711", checked := Try.checked }
namespace Rows
def none {H : Type} : Left H := { results := [], args := [] }

/-- 'supergraphlaw52.BehaviorRight': WHATEVER THE INPUT: true; the input reads as it did. -/
def behaviorRightSpec : ChangeSpec := { name := "behaviorRight", fn := fun _ => fun
  | [d] => { results := [.lit (.bool true)], args := [d] }
  | _ => none }
def behaviorRightRow : OpenClaim := { program := "yticfklecmdjklaa", sum := "4d0529ed055e1521b64ce6df9060c7f424c3cc5f61bfe9da22d7a783ad057711", func := "supergraph/supergraphlaw52.BehaviorRight", spec := "behaviorRight", inPlace := ["internal/bytealg.IndexByteString", "internal/bytealg.IndexString"], unfollowed := true, recurses := true, named := ["internal/bytealg.MaxLen"], apart := false }
def BehaviorRightSaid : Prop := behaviorRightRow.holds Try.pinned (OpenSpec.ofChange behaviorRightSpec)

/-- ITS FALSE NEIGHBOUR: 'it returns false'. Refute it at one input. -/
def behaviorRightWrong : ChangeSpec := { name := "behaviorRight", fn := fun _ => fun
  | [d] => { results := [.lit (.bool false)], args := [d] }
  | _ => none }
def BehaviorRightWrongFalsely : Prop := behaviorRightRow.holds Try.pinned (OpenSpec.ofChange behaviorRightWrong)

/-- 'supergraphlaw52.BehaviorNow': WHATEVER THE INPUT: true; the input reads as it did. -/
def behaviorNowSpec : ChangeSpec := { name := "behaviorNow", fn := fun _ => fun
  | [d1, d2, d3] => { results := [.lit (.bool true)], args := [d1, d2, d3] }
  | _ => none }
def behaviorNowRow : OpenClaim := { program := "yticfklecmdjklaa", sum := "4d0529ed055e1521b64ce6df9060c7f424c3cc5f61bfe9da22d7a783ad057711", func := "supergraph/supergraphlaw52.BehaviorNow", spec := "behaviorNow", inPlace := ["internal/bytealg.IndexByteString", "internal/bytealg.IndexString"], unfollowed := true, recurses := true, named := ["internal/bytealg.MaxLen"], apart := false }
def BehaviorNowSaid : Prop := behaviorNowRow.holds Try.pinned (OpenSpec.ofChange behaviorNowSpec)

/-- ITS FALSE NEIGHBOUR: 'it returns false'. Refute it at one input. -/
def behaviorNowWrong : ChangeSpec := { name := "behaviorNow", fn := fun _ => fun
  | [d1, d2, d3] => { results := [.lit (.bool false)], args := [d1, d2, d3] }
  | _ => none }
def BehaviorNowWrongFalsely : Prop := behaviorNowRow.holds Try.pinned (OpenSpec.ofChange behaviorNowWrong)

/-- 'supergraphlaw52.BehaviorNext': WHATEVER THE INPUT: true; the input reads as it did. -/
def behaviorNextSpec : ChangeSpec := { name := "behaviorNext", fn := fun _ => fun
  | [d1, d2] => { results := [.lit (.bool true)], args := [d1, d2] }
  | _ => none }
def behaviorNextRow : OpenClaim := { program := "yticfklecmdjklaa", sum := "4d0529ed055e1521b64ce6df9060c7f424c3cc5f61bfe9da22d7a783ad057711", func := "supergraph/supergraphlaw52.BehaviorNext", spec := "behaviorNext", inPlace := ["internal/bytealg.IndexByteString", "internal/bytealg.IndexString"], unfollowed := true, recurses := true, named := ["internal/bytealg.MaxLen"], apart := false }
def BehaviorNextSaid : Prop := behaviorNextRow.holds Try.pinned (OpenSpec.ofChange behaviorNextSpec)

/-- ITS FALSE NEIGHBOUR: 'it returns false'. Refute it at one input. -/
def behaviorNextWrong : ChangeSpec := { name := "behaviorNext", fn := fun _ => fun
  | [d1, d2] => { results := [.lit (.bool false)], args := [d1, d2] }
  | _ => none }
def BehaviorNextWrongFalsely : Prop := behaviorNextRow.holds Try.pinned (OpenSpec.ofChange behaviorNextWrong)

/-- 'supergraphlaw52.BehaviorConstant': WHATEVER THE INPUT: true; the input reads as it did. -/
def behaviorConstantSpec : ChangeSpec := { name := "behaviorConstant", fn := fun _ => fun
  | [d1, d2, d3] => { results := [.lit (.bool true)], args := [d1, d2, d3] }
  | _ => none }
def behaviorConstantRow : OpenClaim := { program := "yticfklecmdjklaa", sum := "4d0529ed055e1521b64ce6df9060c7f424c3cc5f61bfe9da22d7a783ad057711", func := "supergraph/supergraphlaw52.BehaviorConstant", spec := "behaviorConstant", inPlace := ["internal/bytealg.IndexByteString", "internal/bytealg.IndexString"], unfollowed := true, recurses := true, named := ["internal/bytealg.MaxLen"], apart := false }
def BehaviorConstantSaid : Prop := behaviorConstantRow.holds Try.pinned (OpenSpec.ofChange behaviorConstantSpec)

/-- ITS FALSE NEIGHBOUR: 'it returns false'. Refute it at one input. -/
def behaviorConstantWrong : ChangeSpec := { name := "behaviorConstant", fn := fun _ => fun
  | [d1, d2, d3] => { results := [.lit (.bool false)], args := [d1, d2, d3] }
  | _ => none }
def BehaviorConstantWrongFalsely : Prop := behaviorConstantRow.holds Try.pinned (OpenSpec.ofChange behaviorConstantWrong)

/-- 'supergraphlaw52.BehaviorLists': WHATEVER THE INPUT: true; the input reads as it did. -/
def behaviorListsSpec : ChangeSpec := { name := "behaviorLists", fn := fun _ => fun
  | [d1, d2, d3] => { results := [.lit (.bool true)], args := [d1, d2, d3] }
  | _ => none }
def behaviorListsRow : OpenClaim := { program := "yticfklecmdjklaa", sum := "4d0529ed055e1521b64ce6df9060c7f424c3cc5f61bfe9da22d7a783ad057711", func := "supergraph/supergraphlaw52.BehaviorLists", spec := "behaviorLists", inPlace := ["internal/bytealg.IndexByteString", "internal/bytealg.IndexString"], unfollowed := true, recurses := true, named := ["internal/bytealg.MaxLen"], apart := false }
def BehaviorListsSaid : Prop := behaviorListsRow.holds Try.pinned (OpenSpec.ofChange behaviorListsSpec)

/-- ITS FALSE NEIGHBOUR: 'it returns false'. Refute it at one input. -/
def behaviorListsWrong : ChangeSpec := { name := "behaviorLists", fn := fun _ => fun
  | [d1, d2, d3] => { results := [.lit (.bool false)], args := [d1, d2, d3] }
  | _ => none }
def BehaviorListsWrongFalsely : Prop := behaviorListsRow.holds Try.pinned (OpenSpec.ofChange behaviorListsWrong)

/- THE SECOND FORM. 'bulk': how many values and letters a reading holds, each counted each time it is reached (what is shared counts as often as it is met; a slice's spare places count too). A statement '..UptoSaid' is the law's where the arguments, and the package variables that the reading takes, are together of bulk at most 1048576: NARROWER than '..Said'. Prove '..Said' where nothing that the law and all that it calls make is longer than what came in: it says more and counts as full. Else prove '..UptoSaid'. A law counts once. -/
mutual
def uptoBulk {H : Type} : DataW H → Nat
  | .lit (.string bytes) => bytes.length + 1
  | .lit _ => 1
  | .nil => 1
  | .ptr d => uptoBulk d + 1
  | .slice elems spare => uptoBulkAll elems + uptoBulkAll spare + 1
  | .agg parts => uptoBulkAll parts + 1
  | .iface _ d => uptoBulk d + 1
  | .map entries => uptoBulkEntries entries + 1
  | .held _ => 1
def uptoBulkAll {H : Type} : List (DataW H) → Nat
  | [] => 0
  | d :: r => uptoBulk d + uptoBulkAll r
def uptoBulkEntries {H : Type} : List (Lit × DataW H) → Nat
  | [] => 0
  | x :: r => uptoBulkEntry x + uptoBulkEntries r
def uptoBulkEntry {H : Type} : Lit × DataW H → Nat
  | (.string bytes, d) => bytes.length + uptoBulk d + 1
  | (_, d) => uptoBulk d + 1
 end
def uptoSmall : (H : Type) → List (DataW H) → Bool := fun _ ds => decide (uptoBulkAll ds ≤ 1048576)
def OpenSpec.upto (s : _root_.Go.ChangeSpec) : _root_.Go.OpenSpec := { _root_.Go.OpenSpec.ofChange s with cond := some uptoSmall }

/-- 'supergraphlaw52.BehaviorRight', WHERE WHAT IT READS IS OF BULK AT MOST 1048576: true; the input reads as it did. -/
def behaviorRightUptoRow : OpenClaim := { program := "yticfklecmdjklaa", sum := "4d0529ed055e1521b64ce6df9060c7f424c3cc5f61bfe9da22d7a783ad057711", func := "supergraph/supergraphlaw52.BehaviorRight", spec := "behaviorRight", inPlace := ["internal/bytealg.IndexByteString", "internal/bytealg.IndexString"], unfollowed := true, recurses := true, named := ["internal/bytealg.MaxLen"], apart := false, narrowed := true }
def BehaviorRightUptoSaid : Prop := behaviorRightUptoRow.holds Try.pinned (OpenSpec.upto behaviorRightSpec)

/-- 'supergraphlaw52.BehaviorNow', WHERE WHAT IT READS IS OF BULK AT MOST 1048576: true; the input reads as it did. -/
def behaviorNowUptoRow : OpenClaim := { program := "yticfklecmdjklaa", sum := "4d0529ed055e1521b64ce6df9060c7f424c3cc5f61bfe9da22d7a783ad057711", func := "supergraph/supergraphlaw52.BehaviorNow", spec := "behaviorNow", inPlace := ["internal/bytealg.IndexByteString", "internal/bytealg.IndexString"], unfollowed := true, recurses := true, named := ["internal/bytealg.MaxLen"], apart := false, narrowed := true }
def BehaviorNowUptoSaid : Prop := behaviorNowUptoRow.holds Try.pinned (OpenSpec.upto behaviorNowSpec)

/-- 'supergraphlaw52.BehaviorNext', WHERE WHAT IT READS IS OF BULK AT MOST 1048576: true; the input reads as it did. -/
def behaviorNextUptoRow : OpenClaim := { program := "yticfklecmdjklaa", sum := "4d0529ed055e1521b64ce6df9060c7f424c3cc5f61bfe9da22d7a783ad057711", func := "supergraph/supergraphlaw52.BehaviorNext", spec := "behaviorNext", inPlace := ["internal/bytealg.IndexByteString", "internal/bytealg.IndexString"], unfollowed := true, recurses := true, named := ["internal/bytealg.MaxLen"], apart := false, narrowed := true }
def BehaviorNextUptoSaid : Prop := behaviorNextUptoRow.holds Try.pinned (OpenSpec.upto behaviorNextSpec)

/-- 'supergraphlaw52.BehaviorConstant', WHERE WHAT IT READS IS OF BULK AT MOST 1048576: true; the input reads as it did. -/
def behaviorConstantUptoRow : OpenClaim := { program := "yticfklecmdjklaa", sum := "4d0529ed055e1521b64ce6df9060c7f424c3cc5f61bfe9da22d7a783ad057711", func := "supergraph/supergraphlaw52.BehaviorConstant", spec := "behaviorConstant", inPlace := ["internal/bytealg.IndexByteString", "internal/bytealg.IndexString"], unfollowed := true, recurses := true, named := ["internal/bytealg.MaxLen"], apart := false, narrowed := true }
def BehaviorConstantUptoSaid : Prop := behaviorConstantUptoRow.holds Try.pinned (OpenSpec.upto behaviorConstantSpec)

/-- 'supergraphlaw52.BehaviorLists', WHERE WHAT IT READS IS OF BULK AT MOST 1048576: true; the input reads as it did. -/
def behaviorListsUptoRow : OpenClaim := { program := "yticfklecmdjklaa", sum := "4d0529ed055e1521b64ce6df9060c7f424c3cc5f61bfe9da22d7a783ad057711", func := "supergraph/supergraphlaw52.BehaviorLists", spec := "behaviorLists", inPlace := ["internal/bytealg.IndexByteString", "internal/bytealg.IndexString"], unfollowed := true, recurses := true, named := ["internal/bytealg.MaxLen"], apart := false, narrowed := true }
def BehaviorListsUptoSaid : Prop := behaviorListsUptoRow.holds Try.pinned (OpenSpec.upto behaviorListsSpec)

end Rows
end Go.Proofs.Yticfklecmdjklaa
