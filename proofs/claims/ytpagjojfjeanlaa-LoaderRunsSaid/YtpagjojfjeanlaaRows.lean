/-
  NARROWER THAN 'FOR EVERY INPUT', by the rows' own cells (each row's printed sentence says how): LoaderRuns: loops · LoaderNil: loops · LoaderLoads: loops · LoaderApart: loops.
  DERIVED. THE GIVEN ROWS OF THIS SEAT. 4 by the template 'for every input the law returns true; each argument reads behind the call as it read before'; 0 by the template 'total and deterministic' (their statements: YtpagjojfjeanlaaTotals.lean).
  GIVEN WITH THE SEED: the statements are not yours to turn. If you find one false, say at which input.
  Laid BY PROGRAM, IN A SANDBOX (cutbox-rows.mjs): the forced cells as the released guide's own fill.sh prints them over the translation 8b6aaf9616409ecc… (all of the seat's roots in one cut). By AI agents, Wed Nov 11 2026. No macro, syntax, notation, axiom, sorry.
-/
import Derived.Test.YtpagjojfjeanlaaChecked
import GoSem.Claim
import GoSem.ClaimJoined
import GoSem.ClaimMapViews
import Derived.JoinedTies
import Derived.KernelRfl
namespace Go.Proofs.Ytpagjojfjeanlaa
/- THE CELL 'sum', in the pinned program and in every row, IS THE sha256 OF THE DUMP (.gsa) THAT YtpagjojfjeanlaaProg.lean LOADS. Nothing in Lean hashes anything: it is a label: what it is worth is what the hold of that sum in a sandbox is worth. -/
noncomputable def Try.pinned : Pinned := { name := "ytpagjojfjeanlaa", sum := "8b6aaf9616409ecc719fe4968d4e559dddf99e161d851c248a7b95588bab66b7", checked := Try.checked }
namespace Rows
def none {H : Type} : Left H := { results := [], args := [] }

/-- 'supergraphlaw35.LoaderRuns': WHATEVER THE INPUT: true; the input reads as it did. -/
def loaderRunsSpec : ChangeSpec := { name := "loaderRuns", fn := fun _ => fun
  | [d1, d2] => { results := [.lit (.bool true)], args := [d1, d2] }
  | _ => none }
def loaderRunsRow : OpenClaim := { program := "ytpagjojfjeanlaa", sum := "8b6aaf9616409ecc719fe4968d4e559dddf99e161d851c248a7b95588bab66b7", func := "supergraph/supergraphlaw35.LoaderRuns", spec := "loaderRuns", inPlace := ["internal/bytealg.abigen_runtime_cmpstring"], recurses := true, loops := true, apart := false }
def LoaderRunsSaid : Prop := loaderRunsRow.holds Try.pinned (OpenSpec.ofChange loaderRunsSpec)

/-- ITS FALSE NEIGHBOUR: 'it returns false'. Refute it at one input. -/
def loaderRunsWrong : ChangeSpec := { name := "loaderRuns", fn := fun _ => fun
  | [d1, d2] => { results := [.lit (.bool false)], args := [d1, d2] }
  | _ => none }
def LoaderRunsWrongFalsely : Prop := loaderRunsRow.holds Try.pinned (OpenSpec.ofChange loaderRunsWrong)

/-- 'supergraphlaw35.LoaderNil': WHATEVER THE INPUT: true; the input reads as it did. -/
def loaderNilSpec : ChangeSpec := { name := "loaderNil", fn := fun _ => fun
  | [d1, d2] => { results := [.lit (.bool true)], args := [d1, d2] }
  | _ => none }
def loaderNilRow : OpenClaim := { program := "ytpagjojfjeanlaa", sum := "8b6aaf9616409ecc719fe4968d4e559dddf99e161d851c248a7b95588bab66b7", func := "supergraph/supergraphlaw35.LoaderNil", spec := "loaderNil", inPlace := ["internal/bytealg.abigen_runtime_cmpstring"], recurses := true, loops := true, apart := false }
def LoaderNilSaid : Prop := loaderNilRow.holds Try.pinned (OpenSpec.ofChange loaderNilSpec)

/-- ITS FALSE NEIGHBOUR: 'it returns false'. Refute it at one input. -/
def loaderNilWrong : ChangeSpec := { name := "loaderNil", fn := fun _ => fun
  | [d1, d2] => { results := [.lit (.bool false)], args := [d1, d2] }
  | _ => none }
def LoaderNilWrongFalsely : Prop := loaderNilRow.holds Try.pinned (OpenSpec.ofChange loaderNilWrong)

/-- 'supergraphlaw35.LoaderLoads': WHATEVER THE INPUT: true; the input reads as it did. -/
def loaderLoadsSpec : ChangeSpec := { name := "loaderLoads", fn := fun _ => fun
  | [d1, d2] => { results := [.lit (.bool true)], args := [d1, d2] }
  | _ => none }
def loaderLoadsRow : OpenClaim := { program := "ytpagjojfjeanlaa", sum := "8b6aaf9616409ecc719fe4968d4e559dddf99e161d851c248a7b95588bab66b7", func := "supergraph/supergraphlaw35.LoaderLoads", spec := "loaderLoads", inPlace := ["internal/bytealg.abigen_runtime_cmpstring"], recurses := true, loops := true, apart := false }
def LoaderLoadsSaid : Prop := loaderLoadsRow.holds Try.pinned (OpenSpec.ofChange loaderLoadsSpec)

/-- ITS FALSE NEIGHBOUR: 'it returns false'. Refute it at one input. -/
def loaderLoadsWrong : ChangeSpec := { name := "loaderLoads", fn := fun _ => fun
  | [d1, d2] => { results := [.lit (.bool false)], args := [d1, d2] }
  | _ => none }
def LoaderLoadsWrongFalsely : Prop := loaderLoadsRow.holds Try.pinned (OpenSpec.ofChange loaderLoadsWrong)

/-- 'supergraphlaw35.LoaderApart': WHATEVER THE INPUT: true; the input reads as it did. -/
def loaderApartSpec : ChangeSpec := { name := "loaderApart", fn := fun _ => fun
  | [d1, d2, d3] => { results := [.lit (.bool true)], args := [d1, d2, d3] }
  | _ => none }
def loaderApartRow : OpenClaim := { program := "ytpagjojfjeanlaa", sum := "8b6aaf9616409ecc719fe4968d4e559dddf99e161d851c248a7b95588bab66b7", func := "supergraph/supergraphlaw35.LoaderApart", spec := "loaderApart", inPlace := ["internal/bytealg.abigen_runtime_cmpstring"], recurses := true, loops := true, apart := false }
def LoaderApartSaid : Prop := loaderApartRow.holds Try.pinned (OpenSpec.ofChange loaderApartSpec)

/-- ITS FALSE NEIGHBOUR: 'it returns false'. Refute it at one input. -/
def loaderApartWrong : ChangeSpec := { name := "loaderApart", fn := fun _ => fun
  | [d1, d2, d3] => { results := [.lit (.bool false)], args := [d1, d2, d3] }
  | _ => none }
def LoaderApartWrongFalsely : Prop := loaderApartRow.holds Try.pinned (OpenSpec.ofChange loaderApartWrong)

/- THE SECOND FORM. 'bulk': how many values and letters a reading holds, each counted each time it is reached (what is shared counts as often as it is met; a slice's spare places count too). A statement '..UptoSaid' is the law's where the arguments, and the package variables that the reading takes, are together of bulk at most 1048576: NARROWER than '..Said'. Prove '..Said' where nothing that the law and all that it calls make is longer than what came in: it says more and counts as full. Else prove '..UptoSaid'. A law counts once. -/
mutual
def uptoBulk {H : Type} : DataW H → Nat
  | .lit (.string bytes) => bytes.length + 1
  | .lit _ => 1
  | .nil => 1
  | .ptr d => uptoBulk d + 1
  | .slice elems spare => uptoBulkAll elems + uptoBulkAll spare + 1
  | .agg parts => uptoBulkAll parts + 1
  | .iface _ d => uptoBulk d + 1
  | .map entries => uptoBulkEntries entries + 1
  | .held _ => 1
def uptoBulkAll {H : Type} : List (DataW H) → Nat
  | [] => 0
  | d :: r => uptoBulk d + uptoBulkAll r
def uptoBulkEntries {H : Type} : List (Lit × DataW H) → Nat
  | [] => 0
  | x :: r => uptoBulkEntry x + uptoBulkEntries r
def uptoBulkEntry {H : Type} : Lit × DataW H → Nat
  | (.string bytes, d) => bytes.length + uptoBulk d + 1
  | (_, d) => uptoBulk d + 1
 end
def uptoSmall : (H : Type) → List (DataW H) → Bool := fun _ ds => decide (uptoBulkAll ds ≤ 1048576)
def OpenSpec.upto (s : _root_.Go.ChangeSpec) : _root_.Go.OpenSpec := { _root_.Go.OpenSpec.ofChange s with cond := some uptoSmall }

/-- 'supergraphlaw35.LoaderRuns', WHERE WHAT IT READS IS OF BULK AT MOST 1048576: true; the input reads as it did. -/
def loaderRunsUptoRow : OpenClaim := { program := "ytpagjojfjeanlaa", sum := "8b6aaf9616409ecc719fe4968d4e559dddf99e161d851c248a7b95588bab66b7", func := "supergraph/supergraphlaw35.LoaderRuns", spec := "loaderRuns", inPlace := ["internal/bytealg.abigen_runtime_cmpstring"], recurses := true, loops := true, apart := false, narrowed := true }
def LoaderRunsUptoSaid : Prop := loaderRunsUptoRow.holds Try.pinned (OpenSpec.upto loaderRunsSpec)

/-- 'supergraphlaw35.LoaderNil', WHERE WHAT IT READS IS OF BULK AT MOST 1048576: true; the input reads as it did. -/
def loaderNilUptoRow : OpenClaim := { program := "ytpagjojfjeanlaa", sum := "8b6aaf9616409ecc719fe4968d4e559dddf99e161d851c248a7b95588bab66b7", func := "supergraph/supergraphlaw35.LoaderNil", spec := "loaderNil", inPlace := ["internal/bytealg.abigen_runtime_cmpstring"], recurses := true, loops := true, apart := false, narrowed := true }
def LoaderNilUptoSaid : Prop := loaderNilUptoRow.holds Try.pinned (OpenSpec.upto loaderNilSpec)

/-- 'supergraphlaw35.LoaderLoads', WHERE WHAT IT READS IS OF BULK AT MOST 1048576: true; the input reads as it did. -/
def loaderLoadsUptoRow : OpenClaim := { program := "ytpagjojfjeanlaa", sum := "8b6aaf9616409ecc719fe4968d4e559dddf99e161d851c248a7b95588bab66b7", func := "supergraph/supergraphlaw35.LoaderLoads", spec := "loaderLoads", inPlace := ["internal/bytealg.abigen_runtime_cmpstring"], recurses := true, loops := true, apart := false, narrowed := true }
def LoaderLoadsUptoSaid : Prop := loaderLoadsUptoRow.holds Try.pinned (OpenSpec.upto loaderLoadsSpec)

/-- 'supergraphlaw35.LoaderApart', WHERE WHAT IT READS IS OF BULK AT MOST 1048576: true; the input reads as it did. -/
def loaderApartUptoRow : OpenClaim := { program := "ytpagjojfjeanlaa", sum := "8b6aaf9616409ecc719fe4968d4e559dddf99e161d851c248a7b95588bab66b7", func := "supergraph/supergraphlaw35.LoaderApart", spec := "loaderApart", inPlace := ["internal/bytealg.abigen_runtime_cmpstring"], recurses := true, loops := true, apart := false, narrowed := true }
def LoaderApartUptoSaid : Prop := loaderApartUptoRow.holds Try.pinned (OpenSpec.upto loaderApartSpec)

end Rows
end Go.Proofs.Ytpagjojfjeanlaa
