/-
  NARROWER THAN 'FOR EVERY INPUT', by the rows' own cells (each row's printed sentence says how): MergeOnce: loops · MergeFits: loops · MergeDef: loops · MergeTypes: loops · MergeOrder: loops.
  DERIVED. THE GIVEN ROWS OF THIS SEAT. 5 by the template 'for every input the law returns true; each argument reads behind the call as it read before'; 0 by the template 'total and deterministic' (their statements: YtablikngmojchaaGreatTotals.lean).
  GIVEN WITH THE SEED: the statements are not yours to turn. If you find one false, say at which input.
  Laid BY PROGRAM, IN A SANDBOX (cutbox-rows.mjs): the forced cells as the released guide's own fill.sh prints them over the translation d36c82ef46e7803e… (all of the seat's roots in one cut). By AI agents, Wed Nov 11 2026. No macro, syntax, notation, axiom, sorry.
-/
import Derived.Test.YtablikngmojchaaGreatChecked
import GoSem.Claim
import GoSem.ClaimJoined
import GoSem.ClaimMapViews
import Derived.JoinedTies
import Derived.KernelRfl
namespace Go.Proofs.YtablikngmojchaaGreat
/- THE CELL 'sum', in the pinned program and in every row, IS THE sha256 OF THE DUMP (.gsa) THAT YtablikngmojchaaGreatProg.lean LOADS. Nothing in Lean hashes anything: it is a label: what it is worth is what the hold of that sum in a sandbox is worth. -/
noncomputable def Tryz.pinned : Pinned := { name := "ytablikngmojchaagreat", sum := "d36c82ef46e7803e78651077128b62193151a84fe119457ae621f9df90234dcd", checked := Tryz.checked }
namespace Rows
def none {H : Type} : Left H := { results := [], args := [] }

/-- 'supergraphlaw24.MergeOnce': WHATEVER THE INPUT: true; the input reads as it did. -/
def mergeOnceSpec : ChangeSpec := { name := "mergeOnce", fn := fun _ => fun
  | [d] => { results := [.lit (.bool true)], args := [d] }
  | _ => none }
def mergeOnceRow : OpenClaim := { program := "ytablikngmojchaagreat", sum := "d36c82ef46e7803e78651077128b62193151a84fe119457ae621f9df90234dcd", func := "supergraph/supergraphlaw24.MergeOnce", spec := "mergeOnce", inPlace := ["internal/bytealg.abigen_runtime_cmpstring"], unfollowed := true, recurses := true, loops := true, apart := false }
def MergeOnceSaid : Prop := mergeOnceRow.holds Tryz.pinned (OpenSpec.ofChange mergeOnceSpec)

/-- ITS FALSE NEIGHBOUR: 'it returns false'. Refute it at one input. -/
def mergeOnceWrong : ChangeSpec := { name := "mergeOnce", fn := fun _ => fun
  | [d] => { results := [.lit (.bool false)], args := [d] }
  | _ => none }
def MergeOnceWrongFalsely : Prop := mergeOnceRow.holds Tryz.pinned (OpenSpec.ofChange mergeOnceWrong)

/-- 'supergraphlaw24.MergeFits': WHATEVER THE INPUT: true; the input reads as it did. -/
def mergeFitsSpec : ChangeSpec := { name := "mergeFits", fn := fun _ => fun
  | [d] => { results := [.lit (.bool true)], args := [d] }
  | _ => none }
def mergeFitsRow : OpenClaim := { program := "ytablikngmojchaagreat", sum := "d36c82ef46e7803e78651077128b62193151a84fe119457ae621f9df90234dcd", func := "supergraph/supergraphlaw24.MergeFits", spec := "mergeFits", inPlace := ["internal/bytealg.abigen_runtime_cmpstring"], unfollowed := true, recurses := true, loops := true, apart := false }
def MergeFitsSaid : Prop := mergeFitsRow.holds Tryz.pinned (OpenSpec.ofChange mergeFitsSpec)

/-- ITS FALSE NEIGHBOUR: 'it returns false'. Refute it at one input. -/
def mergeFitsWrong : ChangeSpec := { name := "mergeFits", fn := fun _ => fun
  | [d] => { results := [.lit (.bool false)], args := [d] }
  | _ => none }
def MergeFitsWrongFalsely : Prop := mergeFitsRow.holds Tryz.pinned (OpenSpec.ofChange mergeFitsWrong)

/-- 'supergraphlaw24.MergeDef': WHATEVER THE INPUT: true; the input reads as it did. -/
def mergeDefSpec : ChangeSpec := { name := "mergeDef", fn := fun _ => fun
  | [d1, d2] => { results := [.lit (.bool true)], args := [d1, d2] }
  | _ => none }
def mergeDefRow : OpenClaim := { program := "ytablikngmojchaagreat", sum := "d36c82ef46e7803e78651077128b62193151a84fe119457ae621f9df90234dcd", func := "supergraph/supergraphlaw24.MergeDef", spec := "mergeDef", inPlace := ["internal/bytealg.abigen_runtime_cmpstring"], unfollowed := true, recurses := true, loops := true, apart := false }
def MergeDefSaid : Prop := mergeDefRow.holds Tryz.pinned (OpenSpec.ofChange mergeDefSpec)

/-- ITS FALSE NEIGHBOUR: 'it returns false'. Refute it at one input. -/
def mergeDefWrong : ChangeSpec := { name := "mergeDef", fn := fun _ => fun
  | [d1, d2] => { results := [.lit (.bool false)], args := [d1, d2] }
  | _ => none }
def MergeDefWrongFalsely : Prop := mergeDefRow.holds Tryz.pinned (OpenSpec.ofChange mergeDefWrong)

/-- 'supergraphlaw24.MergeTypes': WHATEVER THE INPUT: true; the input reads as it did. -/
def mergeTypesSpec : ChangeSpec := { name := "mergeTypes", fn := fun _ => fun
  | [d] => { results := [.lit (.bool true)], args := [d] }
  | _ => none }
def mergeTypesRow : OpenClaim := { program := "ytablikngmojchaagreat", sum := "d36c82ef46e7803e78651077128b62193151a84fe119457ae621f9df90234dcd", func := "supergraph/supergraphlaw24.MergeTypes", spec := "mergeTypes", inPlace := ["internal/bytealg.abigen_runtime_cmpstring"], unfollowed := true, recurses := true, loops := true, apart := false }
def MergeTypesSaid : Prop := mergeTypesRow.holds Tryz.pinned (OpenSpec.ofChange mergeTypesSpec)

/-- ITS FALSE NEIGHBOUR: 'it returns false'. Refute it at one input. -/
def mergeTypesWrong : ChangeSpec := { name := "mergeTypes", fn := fun _ => fun
  | [d] => { results := [.lit (.bool false)], args := [d] }
  | _ => none }
def MergeTypesWrongFalsely : Prop := mergeTypesRow.holds Tryz.pinned (OpenSpec.ofChange mergeTypesWrong)

/-- 'supergraphlaw24.MergeOrder': WHATEVER THE INPUT: true; the input reads as it did. -/
def mergeOrderSpec : ChangeSpec := { name := "mergeOrder", fn := fun _ => fun
  | [d] => { results := [.lit (.bool true)], args := [d] }
  | _ => none }
def mergeOrderRow : OpenClaim := { program := "ytablikngmojchaagreat", sum := "d36c82ef46e7803e78651077128b62193151a84fe119457ae621f9df90234dcd", func := "supergraph/supergraphlaw24.MergeOrder", spec := "mergeOrder", inPlace := ["internal/bytealg.abigen_runtime_cmpstring"], unfollowed := true, recurses := true, loops := true, apart := false }
def MergeOrderSaid : Prop := mergeOrderRow.holds Tryz.pinned (OpenSpec.ofChange mergeOrderSpec)

/-- ITS FALSE NEIGHBOUR: 'it returns false'. Refute it at one input. -/
def mergeOrderWrong : ChangeSpec := { name := "mergeOrder", fn := fun _ => fun
  | [d] => { results := [.lit (.bool false)], args := [d] }
  | _ => none }
def MergeOrderWrongFalsely : Prop := mergeOrderRow.holds Tryz.pinned (OpenSpec.ofChange mergeOrderWrong)

/- THE SECOND FORM. 'bulk': how many values and letters a reading holds, each counted each time it is reached (what is shared counts as often as it is met; a slice's spare places count too). A statement '..UptoSaid' is the law's where the arguments, and the package variables that the reading takes, are together of bulk at most 1048576: NARROWER than '..Said'. Prove '..Said' where nothing that the law and all that it calls make is longer than what came in: it says more and counts as full. Else prove '..UptoSaid'. A law counts once. -/
mutual
def uptoBulk {H : Type} : DataW H → Nat
  | .lit (.string bytes) => bytes.length + 1
  | .lit _ => 1
  | .nil => 1
  | .ptr d => uptoBulk d + 1
  | .slice elems spare => uptoBulkAll elems + uptoBulkAll spare + 1
  | .agg parts => uptoBulkAll parts + 1
  | .iface _ d => uptoBulk d + 1
  | .map entries => uptoBulkEntries entries + 1
  | .held _ => 1
def uptoBulkAll {H : Type} : List (DataW H) → Nat
  | [] => 0
  | d :: r => uptoBulk d + uptoBulkAll r
def uptoBulkEntries {H : Type} : List (Lit × DataW H) → Nat
  | [] => 0
  | x :: r => uptoBulkEntry x + uptoBulkEntries r
def uptoBulkEntry {H : Type} : Lit × DataW H → Nat
  | (.string bytes, d) => bytes.length + uptoBulk d + 1
  | (_, d) => uptoBulk d + 1
 end
def uptoSmall : (H : Type) → List (DataW H) → Bool := fun _ ds => decide (uptoBulkAll ds ≤ 1048576)
def OpenSpec.upto (s : _root_.Go.ChangeSpec) : _root_.Go.OpenSpec := { _root_.Go.OpenSpec.ofChange s with cond := some uptoSmall }

/-- 'supergraphlaw24.MergeOnce', WHERE WHAT IT READS IS OF BULK AT MOST 1048576: true; the input reads as it did. -/
def mergeOnceUptoRow : OpenClaim := { program := "ytablikngmojchaagreat", sum := "d36c82ef46e7803e78651077128b62193151a84fe119457ae621f9df90234dcd", func := "supergraph/supergraphlaw24.MergeOnce", spec := "mergeOnce", inPlace := ["internal/bytealg.abigen_runtime_cmpstring"], unfollowed := true, recurses := true, loops := true, apart := false, narrowed := true }
def MergeOnceUptoSaid : Prop := mergeOnceUptoRow.holds Tryz.pinned (OpenSpec.upto mergeOnceSpec)

/-- 'supergraphlaw24.MergeFits', WHERE WHAT IT READS IS OF BULK AT MOST 1048576: true; the input reads as it did. -/
def mergeFitsUptoRow : OpenClaim := { program := "ytablikngmojchaagreat", sum := "d36c82ef46e7803e78651077128b62193151a84fe119457ae621f9df90234dcd", func := "supergraph/supergraphlaw24.MergeFits", spec := "mergeFits", inPlace := ["internal/bytealg.abigen_runtime_cmpstring"], unfollowed := true, recurses := true, loops := true, apart := false, narrowed := true }
def MergeFitsUptoSaid : Prop := mergeFitsUptoRow.holds Tryz.pinned (OpenSpec.upto mergeFitsSpec)

/-- 'supergraphlaw24.MergeDef', WHERE WHAT IT READS IS OF BULK AT MOST 1048576: true; the input reads as it did. -/
def mergeDefUptoRow : OpenClaim := { program := "ytablikngmojchaagreat", sum := "d36c82ef46e7803e78651077128b62193151a84fe119457ae621f9df90234dcd", func := "supergraph/supergraphlaw24.MergeDef", spec := "mergeDef", inPlace := ["internal/bytealg.abigen_runtime_cmpstring"], unfollowed := true, recurses := true, loops := true, apart := false, narrowed := true }
def MergeDefUptoSaid : Prop := mergeDefUptoRow.holds Tryz.pinned (OpenSpec.upto mergeDefSpec)

/-- 'supergraphlaw24.MergeTypes', WHERE WHAT IT READS IS OF BULK AT MOST 1048576: true; the input reads as it did. -/
def mergeTypesUptoRow : OpenClaim := { program := "ytablikngmojchaagreat", sum := "d36c82ef46e7803e78651077128b62193151a84fe119457ae621f9df90234dcd", func := "supergraph/supergraphlaw24.MergeTypes", spec := "mergeTypes", inPlace := ["internal/bytealg.abigen_runtime_cmpstring"], unfollowed := true, recurses := true, loops := true, apart := false, narrowed := true }
def MergeTypesUptoSaid : Prop := mergeTypesUptoRow.holds Tryz.pinned (OpenSpec.upto mergeTypesSpec)

/-- 'supergraphlaw24.MergeOrder', WHERE WHAT IT READS IS OF BULK AT MOST 1048576: true; the input reads as it did. -/
def mergeOrderUptoRow : OpenClaim := { program := "ytablikngmojchaagreat", sum := "d36c82ef46e7803e78651077128b62193151a84fe119457ae621f9df90234dcd", func := "supergraph/supergraphlaw24.MergeOrder", spec := "mergeOrder", inPlace := ["internal/bytealg.abigen_runtime_cmpstring"], unfollowed := true, recurses := true, loops := true, apart := false, narrowed := true }
def MergeOrderUptoSaid : Prop := mergeOrderUptoRow.holds Tryz.pinned (OpenSpec.upto mergeOrderSpec)

end Rows
end Go.Proofs.YtablikngmojchaaGreat
