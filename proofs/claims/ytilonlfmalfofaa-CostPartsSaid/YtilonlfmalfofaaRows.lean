/-
  NARROWER THAN 'FOR EVERY INPUT', by the rows' own cells (each row's printed sentence says how): AuthMay: loops · AuthFilters: loops · AuthMarks: loops · AuthKeeps: loops · AuthCounts: loops · CostFields: loops · CostOperations: loops · CostResults: loops · CostBounds: loops · CostParts: loops.
  DERIVED. THE GIVEN ROWS OF THIS SEAT. 10 by the template 'for every input the law returns true; each argument reads behind the call as it read before'; 0 by the template 'total and deterministic' (their statements: YtilonlfmalfofaaTotals.lean).
  GIVEN WITH THE SEED: the statements are not yours to turn. If you find one false, say at which input.
  Laid BY PROGRAM, IN A SANDBOX (cutbox-rows.mjs): the forced cells as the released guide's own fill.sh prints them over the translation 91a0d8ea7257fccc… (all of the seat's roots in one cut). By AI agents, Wed Nov 11 2026. No macro, syntax, notation, axiom, sorry.
-/
import Derived.Test.YtilonlfmalfofaaChecked
import GoSem.Claim
import GoSem.ClaimJoined
import GoSem.ClaimMapViews
import Derived.JoinedTies
import Derived.KernelRfl
namespace Go.Proofs.Ytilonlfmalfofaa
/- THE CELL 'sum', in the pinned program and in every row, IS THE sha256 OF THE DUMP (.gsa) THAT YtilonlfmalfofaaProg.lean LOADS. Nothing in Lean hashes anything: it is a label: what it is worth is what the hold of that sum in a sandbox is worth. -/
noncomputable def Try.pinned : Pinned := { name := "ytilonlfmalfofaa", sum := "91a0d8ea7257fcccba761107627491c01d4ca72921da3d7e062cff6c5f3889e7", checked := Try.checked }
namespace Rows
def none {H : Type} : Left H := { results := [], args := [] }

/-- 'supergraphlaw43.AuthMay': WHATEVER THE INPUT: true; the input reads as it did. -/
def authMaySpec : ChangeSpec := { name := "authMay", fn := fun _ => fun
  | [d1, d2, d3, d4] => { results := [.lit (.bool true)], args := [d1, d2, d3, d4] }
  | _ => none }
def authMayRow : OpenClaim := { program := "ytilonlfmalfofaa", sum := "91a0d8ea7257fcccba761107627491c01d4ca72921da3d7e062cff6c5f3889e7", func := "supergraph/supergraphlaw43.AuthMay", spec := "authMay", unfollowed := true, recurses := true, loops := true, apart := false }
def AuthMaySaid : Prop := authMayRow.holds Try.pinned (OpenSpec.ofChange authMaySpec)

/-- ITS FALSE NEIGHBOUR: 'it returns false'. Refute it at one input. -/
def authMayWrong : ChangeSpec := { name := "authMay", fn := fun _ => fun
  | [d1, d2, d3, d4] => { results := [.lit (.bool false)], args := [d1, d2, d3, d4] }
  | _ => none }
def AuthMayWrongFalsely : Prop := authMayRow.holds Try.pinned (OpenSpec.ofChange authMayWrong)

/-- 'supergraphlaw43.AuthFilters': WHATEVER THE INPUT: true; the input reads as it did. -/
def authFiltersSpec : ChangeSpec := { name := "authFilters", fn := fun _ => fun
  | [d] => { results := [.lit (.bool true)], args := [d] }
  | _ => none }
def authFiltersRow : OpenClaim := { program := "ytilonlfmalfofaa", sum := "91a0d8ea7257fcccba761107627491c01d4ca72921da3d7e062cff6c5f3889e7", func := "supergraph/supergraphlaw43.AuthFilters", spec := "authFilters", unfollowed := true, recurses := true, loops := true, apart := false }
def AuthFiltersSaid : Prop := authFiltersRow.holds Try.pinned (OpenSpec.ofChange authFiltersSpec)

/-- ITS FALSE NEIGHBOUR: 'it returns false'. Refute it at one input. -/
def authFiltersWrong : ChangeSpec := { name := "authFilters", fn := fun _ => fun
  | [d] => { results := [.lit (.bool false)], args := [d] }
  | _ => none }
def AuthFiltersWrongFalsely : Prop := authFiltersRow.holds Try.pinned (OpenSpec.ofChange authFiltersWrong)

/-- 'supergraphlaw43.AuthMarks': WHATEVER THE INPUT: true; the input reads as it did. -/
def authMarksSpec : ChangeSpec := { name := "authMarks", fn := fun _ => fun
  | [d1, d2] => { results := [.lit (.bool true)], args := [d1, d2] }
  | _ => none }
def authMarksRow : OpenClaim := { program := "ytilonlfmalfofaa", sum := "91a0d8ea7257fcccba761107627491c01d4ca72921da3d7e062cff6c5f3889e7", func := "supergraph/supergraphlaw43.AuthMarks", spec := "authMarks", unfollowed := true, recurses := true, loops := true, apart := false }
def AuthMarksSaid : Prop := authMarksRow.holds Try.pinned (OpenSpec.ofChange authMarksSpec)

/-- ITS FALSE NEIGHBOUR: 'it returns false'. Refute it at one input. -/
def authMarksWrong : ChangeSpec := { name := "authMarks", fn := fun _ => fun
  | [d1, d2] => { results := [.lit (.bool false)], args := [d1, d2] }
  | _ => none }
def AuthMarksWrongFalsely : Prop := authMarksRow.holds Try.pinned (OpenSpec.ofChange authMarksWrong)

/-- 'supergraphlaw43.AuthKeeps': WHATEVER THE INPUT: true; the input reads as it did. -/
def authKeepsSpec : ChangeSpec := { name := "authKeeps", fn := fun _ => fun
  | [d] => { results := [.lit (.bool true)], args := [d] }
  | _ => none }
def authKeepsRow : OpenClaim := { program := "ytilonlfmalfofaa", sum := "91a0d8ea7257fcccba761107627491c01d4ca72921da3d7e062cff6c5f3889e7", func := "supergraph/supergraphlaw43.AuthKeeps", spec := "authKeeps", unfollowed := true, recurses := true, loops := true, apart := false }
def AuthKeepsSaid : Prop := authKeepsRow.holds Try.pinned (OpenSpec.ofChange authKeepsSpec)

/-- ITS FALSE NEIGHBOUR: 'it returns false'. Refute it at one input. -/
def authKeepsWrong : ChangeSpec := { name := "authKeeps", fn := fun _ => fun
  | [d] => { results := [.lit (.bool false)], args := [d] }
  | _ => none }
def AuthKeepsWrongFalsely : Prop := authKeepsRow.holds Try.pinned (OpenSpec.ofChange authKeepsWrong)

/-- 'supergraphlaw43.AuthCounts': WHATEVER THE INPUT: true; the input reads as it did. -/
def authCountsSpec : ChangeSpec := { name := "authCounts", fn := fun _ => fun
  | [d] => { results := [.lit (.bool true)], args := [d] }
  | _ => none }
def authCountsRow : OpenClaim := { program := "ytilonlfmalfofaa", sum := "91a0d8ea7257fcccba761107627491c01d4ca72921da3d7e062cff6c5f3889e7", func := "supergraph/supergraphlaw43.AuthCounts", spec := "authCounts", unfollowed := true, recurses := true, loops := true, apart := false }
def AuthCountsSaid : Prop := authCountsRow.holds Try.pinned (OpenSpec.ofChange authCountsSpec)

/-- ITS FALSE NEIGHBOUR: 'it returns false'. Refute it at one input. -/
def authCountsWrong : ChangeSpec := { name := "authCounts", fn := fun _ => fun
  | [d] => { results := [.lit (.bool false)], args := [d] }
  | _ => none }
def AuthCountsWrongFalsely : Prop := authCountsRow.holds Try.pinned (OpenSpec.ofChange authCountsWrong)

/-- 'supergraphlaw40.CostFields': WHATEVER THE INPUT: true; the input reads as it did. -/
def costFieldsSpec : ChangeSpec := { name := "costFields", fn := fun _ => fun
  | [d1, d2, d3, d4] => { results := [.lit (.bool true)], args := [d1, d2, d3, d4] }
  | _ => none }
def costFieldsRow : OpenClaim := { program := "ytilonlfmalfofaa", sum := "91a0d8ea7257fcccba761107627491c01d4ca72921da3d7e062cff6c5f3889e7", func := "supergraph/supergraphlaw40.CostFields", spec := "costFields", unfollowed := true, recurses := true, loops := true, apart := false }
def CostFieldsSaid : Prop := costFieldsRow.holds Try.pinned (OpenSpec.ofChange costFieldsSpec)

/-- ITS FALSE NEIGHBOUR: 'it returns false'. Refute it at one input. -/
def costFieldsWrong : ChangeSpec := { name := "costFields", fn := fun _ => fun
  | [d1, d2, d3, d4] => { results := [.lit (.bool false)], args := [d1, d2, d3, d4] }
  | _ => none }
def CostFieldsWrongFalsely : Prop := costFieldsRow.holds Try.pinned (OpenSpec.ofChange costFieldsWrong)

/-- 'supergraphlaw40.CostOperations': WHATEVER THE INPUT: true; the input reads as it did. -/
def costOperationsSpec : ChangeSpec := { name := "costOperations", fn := fun _ => fun
  | [d1, d2] => { results := [.lit (.bool true)], args := [d1, d2] }
  | _ => none }
def costOperationsRow : OpenClaim := { program := "ytilonlfmalfofaa", sum := "91a0d8ea7257fcccba761107627491c01d4ca72921da3d7e062cff6c5f3889e7", func := "supergraph/supergraphlaw40.CostOperations", spec := "costOperations", unfollowed := true, recurses := true, loops := true, apart := false }
def CostOperationsSaid : Prop := costOperationsRow.holds Try.pinned (OpenSpec.ofChange costOperationsSpec)

/-- ITS FALSE NEIGHBOUR: 'it returns false'. Refute it at one input. -/
def costOperationsWrong : ChangeSpec := { name := "costOperations", fn := fun _ => fun
  | [d1, d2] => { results := [.lit (.bool false)], args := [d1, d2] }
  | _ => none }
def CostOperationsWrongFalsely : Prop := costOperationsRow.holds Try.pinned (OpenSpec.ofChange costOperationsWrong)

/-- 'supergraphlaw40.CostResults': WHATEVER THE INPUT: true; the input reads as it did. -/
def costResultsSpec : ChangeSpec := { name := "costResults", fn := fun _ => fun
  | [d] => { results := [.lit (.bool true)], args := [d] }
  | _ => none }
def costResultsRow : OpenClaim := { program := "ytilonlfmalfofaa", sum := "91a0d8ea7257fcccba761107627491c01d4ca72921da3d7e062cff6c5f3889e7", func := "supergraph/supergraphlaw40.CostResults", spec := "costResults", unfollowed := true, recurses := true, loops := true, apart := false }
def CostResultsSaid : Prop := costResultsRow.holds Try.pinned (OpenSpec.ofChange costResultsSpec)

/-- ITS FALSE NEIGHBOUR: 'it returns false'. Refute it at one input. -/
def costResultsWrong : ChangeSpec := { name := "costResults", fn := fun _ => fun
  | [d] => { results := [.lit (.bool false)], args := [d] }
  | _ => none }
def CostResultsWrongFalsely : Prop := costResultsRow.holds Try.pinned (OpenSpec.ofChange costResultsWrong)

/-- 'supergraphlaw40.CostBounds': WHATEVER THE INPUT: true; the input reads as it did. -/
def costBoundsSpec : ChangeSpec := { name := "costBounds", fn := fun _ => fun
  | [d] => { results := [.lit (.bool true)], args := [d] }
  | _ => none }
def costBoundsRow : OpenClaim := { program := "ytilonlfmalfofaa", sum := "91a0d8ea7257fcccba761107627491c01d4ca72921da3d7e062cff6c5f3889e7", func := "supergraph/supergraphlaw40.CostBounds", spec := "costBounds", unfollowed := true, recurses := true, loops := true, apart := false }
def CostBoundsSaid : Prop := costBoundsRow.holds Try.pinned (OpenSpec.ofChange costBoundsSpec)

/-- ITS FALSE NEIGHBOUR: 'it returns false'. Refute it at one input. -/
def costBoundsWrong : ChangeSpec := { name := "costBounds", fn := fun _ => fun
  | [d] => { results := [.lit (.bool false)], args := [d] }
  | _ => none }
def CostBoundsWrongFalsely : Prop := costBoundsRow.holds Try.pinned (OpenSpec.ofChange costBoundsWrong)

/-- 'supergraphlaw40.CostParts': WHATEVER THE INPUT: true; the input reads as it did. -/
def costPartsSpec : ChangeSpec := { name := "costParts", fn := fun _ => fun
  | [d1, d2, d3] => { results := [.lit (.bool true)], args := [d1, d2, d3] }
  | _ => none }
def costPartsRow : OpenClaim := { program := "ytilonlfmalfofaa", sum := "91a0d8ea7257fcccba761107627491c01d4ca72921da3d7e062cff6c5f3889e7", func := "supergraph/supergraphlaw40.CostParts", spec := "costParts", unfollowed := true, recurses := true, loops := true, apart := false }
def CostPartsSaid : Prop := costPartsRow.holds Try.pinned (OpenSpec.ofChange costPartsSpec)

/-- ITS FALSE NEIGHBOUR: 'it returns false'. Refute it at one input. -/
def costPartsWrong : ChangeSpec := { name := "costParts", fn := fun _ => fun
  | [d1, d2, d3] => { results := [.lit (.bool false)], args := [d1, d2, d3] }
  | _ => none }
def CostPartsWrongFalsely : Prop := costPartsRow.holds Try.pinned (OpenSpec.ofChange costPartsWrong)

/- THE SECOND FORM. 'bulk': how many values and letters a reading holds, each counted each time it is reached (what is shared counts as often as it is met; a slice's spare places count too). A statement '..UptoSaid' is the law's where the arguments, and the package variables that the reading takes, are together of bulk at most 1048576: NARROWER than '..Said'. Prove '..Said' where nothing that the law and all that it calls make is longer than what came in: it says more and counts as full. Else prove '..UptoSaid'. A law counts once. -/
mutual
def uptoBulk {H : Type} : DataW H → Nat
  | .lit (.string bytes) => bytes.length + 1
  | .lit _ => 1
  | .nil => 1
  | .ptr d => uptoBulk d + 1
  | .slice elems spare => uptoBulkAll elems + uptoBulkAll spare + 1
  | .agg parts => uptoBulkAll parts + 1
  | .iface _ d => uptoBulk d + 1
  | .map entries => uptoBulkEntries entries + 1
  | .held _ => 1
def uptoBulkAll {H : Type} : List (DataW H) → Nat
  | [] => 0
  | d :: r => uptoBulk d + uptoBulkAll r
def uptoBulkEntries {H : Type} : List (Lit × DataW H) → Nat
  | [] => 0
  | x :: r => uptoBulkEntry x + uptoBulkEntries r
def uptoBulkEntry {H : Type} : Lit × DataW H → Nat
  | (.string bytes, d) => bytes.length + uptoBulk d + 1
  | (_, d) => uptoBulk d + 1
 end
def uptoSmall : (H : Type) → List (DataW H) → Bool := fun _ ds => decide (uptoBulkAll ds ≤ 1048576)
def OpenSpec.upto (s : _root_.Go.ChangeSpec) : _root_.Go.OpenSpec := { _root_.Go.OpenSpec.ofChange s with cond := some uptoSmall }

/-- 'supergraphlaw43.AuthMay', WHERE WHAT IT READS IS OF BULK AT MOST 1048576: true; the input reads as it did. -/
def authMayUptoRow : OpenClaim := { program := "ytilonlfmalfofaa", sum := "91a0d8ea7257fcccba761107627491c01d4ca72921da3d7e062cff6c5f3889e7", func := "supergraph/supergraphlaw43.AuthMay", spec := "authMay", unfollowed := true, recurses := true, loops := true, apart := false, narrowed := true }
def AuthMayUptoSaid : Prop := authMayUptoRow.holds Try.pinned (OpenSpec.upto authMaySpec)

/-- 'supergraphlaw43.AuthFilters', WHERE WHAT IT READS IS OF BULK AT MOST 1048576: true; the input reads as it did. -/
def authFiltersUptoRow : OpenClaim := { program := "ytilonlfmalfofaa", sum := "91a0d8ea7257fcccba761107627491c01d4ca72921da3d7e062cff6c5f3889e7", func := "supergraph/supergraphlaw43.AuthFilters", spec := "authFilters", unfollowed := true, recurses := true, loops := true, apart := false, narrowed := true }
def AuthFiltersUptoSaid : Prop := authFiltersUptoRow.holds Try.pinned (OpenSpec.upto authFiltersSpec)

/-- 'supergraphlaw43.AuthMarks', WHERE WHAT IT READS IS OF BULK AT MOST 1048576: true; the input reads as it did. -/
def authMarksUptoRow : OpenClaim := { program := "ytilonlfmalfofaa", sum := "91a0d8ea7257fcccba761107627491c01d4ca72921da3d7e062cff6c5f3889e7", func := "supergraph/supergraphlaw43.AuthMarks", spec := "authMarks", unfollowed := true, recurses := true, loops := true, apart := false, narrowed := true }
def AuthMarksUptoSaid : Prop := authMarksUptoRow.holds Try.pinned (OpenSpec.upto authMarksSpec)

/-- 'supergraphlaw43.AuthKeeps', WHERE WHAT IT READS IS OF BULK AT MOST 1048576: true; the input reads as it did. -/
def authKeepsUptoRow : OpenClaim := { program := "ytilonlfmalfofaa", sum := "91a0d8ea7257fcccba761107627491c01d4ca72921da3d7e062cff6c5f3889e7", func := "supergraph/supergraphlaw43.AuthKeeps", spec := "authKeeps", unfollowed := true, recurses := true, loops := true, apart := false, narrowed := true }
def AuthKeepsUptoSaid : Prop := authKeepsUptoRow.holds Try.pinned (OpenSpec.upto authKeepsSpec)

/-- 'supergraphlaw43.AuthCounts', WHERE WHAT IT READS IS OF BULK AT MOST 1048576: true; the input reads as it did. -/
def authCountsUptoRow : OpenClaim := { program := "ytilonlfmalfofaa", sum := "91a0d8ea7257fcccba761107627491c01d4ca72921da3d7e062cff6c5f3889e7", func := "supergraph/supergraphlaw43.AuthCounts", spec := "authCounts", unfollowed := true, recurses := true, loops := true, apart := false, narrowed := true }
def AuthCountsUptoSaid : Prop := authCountsUptoRow.holds Try.pinned (OpenSpec.upto authCountsSpec)

/-- 'supergraphlaw40.CostFields', WHERE WHAT IT READS IS OF BULK AT MOST 1048576: true; the input reads as it did. -/
def costFieldsUptoRow : OpenClaim := { program := "ytilonlfmalfofaa", sum := "91a0d8ea7257fcccba761107627491c01d4ca72921da3d7e062cff6c5f3889e7", func := "supergraph/supergraphlaw40.CostFields", spec := "costFields", unfollowed := true, recurses := true, loops := true, apart := false, narrowed := true }
def CostFieldsUptoSaid : Prop := costFieldsUptoRow.holds Try.pinned (OpenSpec.upto costFieldsSpec)

/-- 'supergraphlaw40.CostOperations', WHERE WHAT IT READS IS OF BULK AT MOST 1048576: true; the input reads as it did. -/
def costOperationsUptoRow : OpenClaim := { program := "ytilonlfmalfofaa", sum := "91a0d8ea7257fcccba761107627491c01d4ca72921da3d7e062cff6c5f3889e7", func := "supergraph/supergraphlaw40.CostOperations", spec := "costOperations", unfollowed := true, recurses := true, loops := true, apart := false, narrowed := true }
def CostOperationsUptoSaid : Prop := costOperationsUptoRow.holds Try.pinned (OpenSpec.upto costOperationsSpec)

/-- 'supergraphlaw40.CostResults', WHERE WHAT IT READS IS OF BULK AT MOST 1048576: true; the input reads as it did. -/
def costResultsUptoRow : OpenClaim := { program := "ytilonlfmalfofaa", sum := "91a0d8ea7257fcccba761107627491c01d4ca72921da3d7e062cff6c5f3889e7", func := "supergraph/supergraphlaw40.CostResults", spec := "costResults", unfollowed := true, recurses := true, loops := true, apart := false, narrowed := true }
def CostResultsUptoSaid : Prop := costResultsUptoRow.holds Try.pinned (OpenSpec.upto costResultsSpec)

/-- 'supergraphlaw40.CostBounds', WHERE WHAT IT READS IS OF BULK AT MOST 1048576: true; the input reads as it did. -/
def costBoundsUptoRow : OpenClaim := { program := "ytilonlfmalfofaa", sum := "91a0d8ea7257fcccba761107627491c01d4ca72921da3d7e062cff6c5f3889e7", func := "supergraph/supergraphlaw40.CostBounds", spec := "costBounds", unfollowed := true, recurses := true, loops := true, apart := false, narrowed := true }
def CostBoundsUptoSaid : Prop := costBoundsUptoRow.holds Try.pinned (OpenSpec.upto costBoundsSpec)

/-- 'supergraphlaw40.CostParts', WHERE WHAT IT READS IS OF BULK AT MOST 1048576: true; the input reads as it did. -/
def costPartsUptoRow : OpenClaim := { program := "ytilonlfmalfofaa", sum := "91a0d8ea7257fcccba761107627491c01d4ca72921da3d7e062cff6c5f3889e7", func := "supergraph/supergraphlaw40.CostParts", spec := "costParts", unfollowed := true, recurses := true, loops := true, apart := false, narrowed := true }
def CostPartsUptoSaid : Prop := costPartsUptoRow.holds Try.pinned (OpenSpec.upto costPartsSpec)

end Rows
end Go.Proofs.Ytilonlfmalfofaa
