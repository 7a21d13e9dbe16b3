/-
  NARROWER THAN 'FOR EVERY INPUT', by the rows' own cells (each row's printed sentence says how): OverlapChecks: loops · OverlapClashes: loops · OverlapDistinct: loops · OverlapAgrees: loops.
  DERIVED. THE GIVEN ROWS OF THIS SEAT. 4 by the template 'for every input the law returns true; each argument reads behind the call as it read before'; 0 by the template 'total and deterministic' (their statements: YtnmhhhnkjnhafaaGreatTotals.lean).
  GIVEN WITH THE SEED: the statements are not yours to turn. If you find one false, say at which input.
  Laid BY PROGRAM, IN A SANDBOX (cutbox-rows.mjs): the forced cells as the released guide's own fill.sh prints them over the translation 0f19089fe53387cf… (all of the seat's roots in one cut). By AI agents, Wed Nov 11 2026. No macro, syntax, notation, axiom, sorry.
-/
import Derived.Test.YtnmhhhnkjnhafaaGreatChecked
import GoSem.Claim
import GoSem.ClaimJoined
import GoSem.ClaimMapViews
import Derived.JoinedTies
import Derived.KernelRfl
namespace Go.Proofs.YtnmhhhnkjnhafaaGreat
/- THE CELL 'sum', in the pinned program and in every row, IS THE sha256 OF THE DUMP (.gsa) THAT YtnmhhhnkjnhafaaGreatProg.lean LOADS. Nothing in Lean hashes anything: it is a label: what it is worth is what the hold of that sum in a sandbox is worth. -/
noncomputable def Tryz.pinned : Pinned := { name := "ytnmhhhnkjnhafaagreat", sum := "0f19089fe53387cf2bf5ff899cb63514a8e7fd082d45cbd6827d9044f7209abb", checked := Tryz.checked }
namespace Rows
def none {H : Type} : Left H := { results := [], args := [] }

/-- 'supergraphlaw15.OverlapChecks': WHATEVER THE INPUT: true; the input reads as it did. -/
def overlapChecksSpec : ChangeSpec := { name := "overlapChecks", fn := fun _ => fun
  | [d1, d2] => { results := [.lit (.bool true)], args := [d1, d2] }
  | _ => none }
def overlapChecksRow : OpenClaim := { program := "ytnmhhhnkjnhafaagreat", sum := "0f19089fe53387cf2bf5ff899cb63514a8e7fd082d45cbd6827d9044f7209abb", func := "supergraph/supergraphlaw15.OverlapChecks", spec := "overlapChecks", inPlace := ["internal/bytealg.abigen_runtime_cmpstring"], unfollowed := true, recurses := true, loops := true, plainKeys := false, apart := false }
def OverlapChecksSaid : Prop := overlapChecksRow.holds Tryz.pinned (OpenSpec.ofChange overlapChecksSpec)

/-- ITS FALSE NEIGHBOUR: 'it returns false'. Refute it at one input. -/
def overlapChecksWrong : ChangeSpec := { name := "overlapChecks", fn := fun _ => fun
  | [d1, d2] => { results := [.lit (.bool false)], args := [d1, d2] }
  | _ => none }
def OverlapChecksWrongFalsely : Prop := overlapChecksRow.holds Tryz.pinned (OpenSpec.ofChange overlapChecksWrong)

/-- 'supergraphlaw15.OverlapClashes': WHATEVER THE INPUT: true; the input reads as it did. -/
def overlapClashesSpec : ChangeSpec := { name := "overlapClashes", fn := fun _ => fun
  | [d] => { results := [.lit (.bool true)], args := [d] }
  | _ => none }
def overlapClashesRow : OpenClaim := { program := "ytnmhhhnkjnhafaagreat", sum := "0f19089fe53387cf2bf5ff899cb63514a8e7fd082d45cbd6827d9044f7209abb", func := "supergraph/supergraphlaw15.OverlapClashes", spec := "overlapClashes", inPlace := ["internal/bytealg.abigen_runtime_cmpstring"], unfollowed := true, recurses := true, loops := true, plainKeys := false, apart := false }
def OverlapClashesSaid : Prop := overlapClashesRow.holds Tryz.pinned (OpenSpec.ofChange overlapClashesSpec)

/-- ITS FALSE NEIGHBOUR: 'it returns false'. Refute it at one input. -/
def overlapClashesWrong : ChangeSpec := { name := "overlapClashes", fn := fun _ => fun
  | [d] => { results := [.lit (.bool false)], args := [d] }
  | _ => none }
def OverlapClashesWrongFalsely : Prop := overlapClashesRow.holds Tryz.pinned (OpenSpec.ofChange overlapClashesWrong)

/-- 'supergraphlaw15.OverlapDistinct': WHATEVER THE INPUT: true; the input reads as it did. -/
def overlapDistinctSpec : ChangeSpec := { name := "overlapDistinct", fn := fun _ => fun
  | [d1, d2] => { results := [.lit (.bool true)], args := [d1, d2] }
  | _ => none }
def overlapDistinctRow : OpenClaim := { program := "ytnmhhhnkjnhafaagreat", sum := "0f19089fe53387cf2bf5ff899cb63514a8e7fd082d45cbd6827d9044f7209abb", func := "supergraph/supergraphlaw15.OverlapDistinct", spec := "overlapDistinct", inPlace := ["internal/bytealg.abigen_runtime_cmpstring"], unfollowed := true, recurses := true, loops := true, plainKeys := false, apart := false }
def OverlapDistinctSaid : Prop := overlapDistinctRow.holds Tryz.pinned (OpenSpec.ofChange overlapDistinctSpec)

/-- ITS FALSE NEIGHBOUR: 'it returns false'. Refute it at one input. -/
def overlapDistinctWrong : ChangeSpec := { name := "overlapDistinct", fn := fun _ => fun
  | [d1, d2] => { results := [.lit (.bool false)], args := [d1, d2] }
  | _ => none }
def OverlapDistinctWrongFalsely : Prop := overlapDistinctRow.holds Tryz.pinned (OpenSpec.ofChange overlapDistinctWrong)

/-- 'supergraphlaw15.OverlapAgrees': WHATEVER THE INPUT: true; the input reads as it did. -/
def overlapAgreesSpec : ChangeSpec := { name := "overlapAgrees", fn := fun _ => fun
  | [d1, d2] => { results := [.lit (.bool true)], args := [d1, d2] }
  | _ => none }
def overlapAgreesRow : OpenClaim := { program := "ytnmhhhnkjnhafaagreat", sum := "0f19089fe53387cf2bf5ff899cb63514a8e7fd082d45cbd6827d9044f7209abb", func := "supergraph/supergraphlaw15.OverlapAgrees", spec := "overlapAgrees", inPlace := ["internal/bytealg.abigen_runtime_cmpstring"], unfollowed := true, recurses := true, loops := true, plainKeys := false, apart := false }
def OverlapAgreesSaid : Prop := overlapAgreesRow.holds Tryz.pinned (OpenSpec.ofChange overlapAgreesSpec)

/-- ITS FALSE NEIGHBOUR: 'it returns false'. Refute it at one input. -/
def overlapAgreesWrong : ChangeSpec := { name := "overlapAgrees", fn := fun _ => fun
  | [d1, d2] => { results := [.lit (.bool false)], args := [d1, d2] }
  | _ => none }
def OverlapAgreesWrongFalsely : Prop := overlapAgreesRow.holds Tryz.pinned (OpenSpec.ofChange overlapAgreesWrong)

/- THE SECOND FORM. 'bulk': how many values and letters a reading holds, each counted each time it is reached (what is shared counts as often as it is met; a slice's spare places count too). A statement '..UptoSaid' is the law's where the arguments, and the package variables that the reading takes, are together of bulk at most 1048576: NARROWER than '..Said'. Prove '..Said' where nothing that the law and all that it calls make is longer than what came in: it says more and counts as full. Else prove '..UptoSaid'. A law counts once. -/
mutual
def uptoBulk {H : Type} : DataW H → Nat
  | .lit (.string bytes) => bytes.length + 1
  | .lit _ => 1
  | .nil => 1
  | .ptr d => uptoBulk d + 1
  | .slice elems spare => uptoBulkAll elems + uptoBulkAll spare + 1
  | .agg parts => uptoBulkAll parts + 1
  | .iface _ d => uptoBulk d + 1
  | .map entries => uptoBulkEntries entries + 1
  | .held _ => 1
def uptoBulkAll {H : Type} : List (DataW H) → Nat
  | [] => 0
  | d :: r => uptoBulk d + uptoBulkAll r
def uptoBulkEntries {H : Type} : List (Lit × DataW H) → Nat
  | [] => 0
  | x :: r => uptoBulkEntry x + uptoBulkEntries r
def uptoBulkEntry {H : Type} : Lit × DataW H → Nat
  | (.string bytes, d) => bytes.length + uptoBulk d + 1
  | (_, d) => uptoBulk d + 1
 end
def uptoSmall : (H : Type) → List (DataW H) → Bool := fun _ ds => decide (uptoBulkAll ds ≤ 1048576)
def OpenSpec.upto (s : _root_.Go.ChangeSpec) : _root_.Go.OpenSpec := { _root_.Go.OpenSpec.ofChange s with cond := some uptoSmall }

/-- 'supergraphlaw15.OverlapChecks', WHERE WHAT IT READS IS OF BULK AT MOST 1048576: true; the input reads as it did. -/
def overlapChecksUptoRow : OpenClaim := { program := "ytnmhhhnkjnhafaagreat", sum := "0f19089fe53387cf2bf5ff899cb63514a8e7fd082d45cbd6827d9044f7209abb", func := "supergraph/supergraphlaw15.OverlapChecks", spec := "overlapChecks", inPlace := ["internal/bytealg.abigen_runtime_cmpstring"], unfollowed := true, recurses := true, loops := true, plainKeys := false, apart := false, narrowed := true }
def OverlapChecksUptoSaid : Prop := overlapChecksUptoRow.holds Tryz.pinned (OpenSpec.upto overlapChecksSpec)

/-- 'supergraphlaw15.OverlapClashes', WHERE WHAT IT READS IS OF BULK AT MOST 1048576: true; the input reads as it did. -/
def overlapClashesUptoRow : OpenClaim := { program := "ytnmhhhnkjnhafaagreat", sum := "0f19089fe53387cf2bf5ff899cb63514a8e7fd082d45cbd6827d9044f7209abb", func := "supergraph/supergraphlaw15.OverlapClashes", spec := "overlapClashes", inPlace := ["internal/bytealg.abigen_runtime_cmpstring"], unfollowed := true, recurses := true, loops := true, plainKeys := false, apart := false, narrowed := true }
def OverlapClashesUptoSaid : Prop := overlapClashesUptoRow.holds Tryz.pinned (OpenSpec.upto overlapClashesSpec)

/-- 'supergraphlaw15.OverlapDistinct', WHERE WHAT IT READS IS OF BULK AT MOST 1048576: true; the input reads as it did. -/
def overlapDistinctUptoRow : OpenClaim := { program := "ytnmhhhnkjnhafaagreat", sum := "0f19089fe53387cf2bf5ff899cb63514a8e7fd082d45cbd6827d9044f7209abb", func := "supergraph/supergraphlaw15.OverlapDistinct", spec := "overlapDistinct", inPlace := ["internal/bytealg.abigen_runtime_cmpstring"], unfollowed := true, recurses := true, loops := true, plainKeys := false, apart := false, narrowed := true }
def OverlapDistinctUptoSaid : Prop := overlapDistinctUptoRow.holds Tryz.pinned (OpenSpec.upto overlapDistinctSpec)

/-- 'supergraphlaw15.OverlapAgrees', WHERE WHAT IT READS IS OF BULK AT MOST 1048576: true; the input reads as it did. -/
def overlapAgreesUptoRow : OpenClaim := { program := "ytnmhhhnkjnhafaagreat", sum := "0f19089fe53387cf2bf5ff899cb63514a8e7fd082d45cbd6827d9044f7209abb", func := "supergraph/supergraphlaw15.OverlapAgrees", spec := "overlapAgrees", inPlace := ["internal/bytealg.abigen_runtime_cmpstring"], unfollowed := true, recurses := true, loops := true, plainKeys := false, apart := false, narrowed := true }
def OverlapAgreesUptoSaid : Prop := overlapAgreesUptoRow.holds Tryz.pinned (OpenSpec.upto overlapAgreesSpec)

end Rows
end Go.Proofs.YtnmhhhnkjnhafaaGreat
