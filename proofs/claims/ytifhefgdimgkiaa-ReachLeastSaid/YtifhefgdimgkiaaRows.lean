/-
  NARROWER THAN 'FOR EVERY INPUT', by the rows' own cells (each row's printed sentence says how): ReachGraphs: loops · ReachGrows: loops · ReachOrders: loops · ReachLevels: loops · ReachLeast: loops · ReachGets: loops.
  DERIVED. THE GIVEN ROWS OF THIS SEAT. 6 by the template 'for every input the law returns true; each argument reads behind the call as it read before'; 0 by the template 'total and deterministic' (their statements: YtifhefgdimgkiaaTotals.lean).
  GIVEN WITH THE SEED: the statements are not yours to turn. If you find one false, say at which input.
  Laid BY PROGRAM, IN A SANDBOX (cutbox-rows.mjs): the forced cells as the released guide's own fill.sh prints them over the translation 6b8384cd77c42fc1… (all of the seat's roots in one cut). By AI agents, Wed Nov 11 2026. No macro, syntax, notation, axiom, sorry.
-/
import Derived.Test.YtifhefgdimgkiaaChecked
import GoSem.Claim
import GoSem.ClaimJoined
import GoSem.ClaimMapViews
import Derived.JoinedTies
import Derived.KernelRfl
namespace Go.Proofs.Ytifhefgdimgkiaa
/- THE CELL 'sum', in the pinned program and in every row, IS THE sha256 OF THE DUMP (.gsa) THAT YtifhefgdimgkiaaProg.lean LOADS. Nothing in Lean hashes anything: it is a label: what it is worth is what the hold of that sum in a sandbox is worth. -/
noncomputable def Try.pinned : Pinned := { name := "ytifhefgdimgkiaa", sum := "6b8384cd77c42fc1aaf098c94ff908f3cc456d5b1db0fcc3c50c918586d9a008", checked := Try.checked }
namespace Rows
def none {H : Type} : Left H := { results := [], args := [] }

/-- 'supergraphlaw26.ReachGraphs': WHATEVER THE INPUT: true; the input reads as it did. -/
def reachGraphsSpec : ChangeSpec := { name := "reachGraphs", fn := fun _ => fun
  | [d1, d2, d3] => { results := [.lit (.bool true)], args := [d1, d2, d3] }
  | _ => none }
def reachGraphsRow : OpenClaim := { program := "ytifhefgdimgkiaa", sum := "6b8384cd77c42fc1aaf098c94ff908f3cc456d5b1db0fcc3c50c918586d9a008", func := "supergraph/supergraphlaw26.ReachGraphs", spec := "reachGraphs", unfollowed := true, recurses := true, loops := true, plainKeys := false, apart := false }
def ReachGraphsSaid : Prop := reachGraphsRow.holds Try.pinned (OpenSpec.ofChange reachGraphsSpec)

/-- ITS FALSE NEIGHBOUR: 'it returns false'. Refute it at one input. -/
def reachGraphsWrong : ChangeSpec := { name := "reachGraphs", fn := fun _ => fun
  | [d1, d2, d3] => { results := [.lit (.bool false)], args := [d1, d2, d3] }
  | _ => none }
def ReachGraphsWrongFalsely : Prop := reachGraphsRow.holds Try.pinned (OpenSpec.ofChange reachGraphsWrong)

/-- 'supergraphlaw26.ReachGrows': WHATEVER THE INPUT: true; the input reads as it did. -/
def reachGrowsSpec : ChangeSpec := { name := "reachGrows", fn := fun _ => fun
  | [d1, d2, d3] => { results := [.lit (.bool true)], args := [d1, d2, d3] }
  | _ => none }
def reachGrowsRow : OpenClaim := { program := "ytifhefgdimgkiaa", sum := "6b8384cd77c42fc1aaf098c94ff908f3cc456d5b1db0fcc3c50c918586d9a008", func := "supergraph/supergraphlaw26.ReachGrows", spec := "reachGrows", unfollowed := true, recurses := true, loops := true, plainKeys := false, apart := false }
def ReachGrowsSaid : Prop := reachGrowsRow.holds Try.pinned (OpenSpec.ofChange reachGrowsSpec)

/-- ITS FALSE NEIGHBOUR: 'it returns false'. Refute it at one input. -/
def reachGrowsWrong : ChangeSpec := { name := "reachGrows", fn := fun _ => fun
  | [d1, d2, d3] => { results := [.lit (.bool false)], args := [d1, d2, d3] }
  | _ => none }
def ReachGrowsWrongFalsely : Prop := reachGrowsRow.holds Try.pinned (OpenSpec.ofChange reachGrowsWrong)

/-- 'supergraphlaw26.ReachOrders': WHATEVER THE INPUT: true; the input reads as it did. -/
def reachOrdersSpec : ChangeSpec := { name := "reachOrders", fn := fun _ => fun
  | [d1, d2] => { results := [.lit (.bool true)], args := [d1, d2] }
  | _ => none }
def reachOrdersRow : OpenClaim := { program := "ytifhefgdimgkiaa", sum := "6b8384cd77c42fc1aaf098c94ff908f3cc456d5b1db0fcc3c50c918586d9a008", func := "supergraph/supergraphlaw26.ReachOrders", spec := "reachOrders", unfollowed := true, recurses := true, loops := true, plainKeys := false, apart := false }
def ReachOrdersSaid : Prop := reachOrdersRow.holds Try.pinned (OpenSpec.ofChange reachOrdersSpec)

/-- ITS FALSE NEIGHBOUR: 'it returns false'. Refute it at one input. -/
def reachOrdersWrong : ChangeSpec := { name := "reachOrders", fn := fun _ => fun
  | [d1, d2] => { results := [.lit (.bool false)], args := [d1, d2] }
  | _ => none }
def ReachOrdersWrongFalsely : Prop := reachOrdersRow.holds Try.pinned (OpenSpec.ofChange reachOrdersWrong)

/-- 'supergraphlaw26.ReachLevels': WHATEVER THE INPUT: true; the input reads as it did. -/
def reachLevelsSpec : ChangeSpec := { name := "reachLevels", fn := fun _ => fun
  | [d1, d2, d3] => { results := [.lit (.bool true)], args := [d1, d2, d3] }
  | _ => none }
def reachLevelsRow : OpenClaim := { program := "ytifhefgdimgkiaa", sum := "6b8384cd77c42fc1aaf098c94ff908f3cc456d5b1db0fcc3c50c918586d9a008", func := "supergraph/supergraphlaw26.ReachLevels", spec := "reachLevels", unfollowed := true, recurses := true, loops := true, plainKeys := false, apart := false }
def ReachLevelsSaid : Prop := reachLevelsRow.holds Try.pinned (OpenSpec.ofChange reachLevelsSpec)

/-- ITS FALSE NEIGHBOUR: 'it returns false'. Refute it at one input. -/
def reachLevelsWrong : ChangeSpec := { name := "reachLevels", fn := fun _ => fun
  | [d1, d2, d3] => { results := [.lit (.bool false)], args := [d1, d2, d3] }
  | _ => none }
def ReachLevelsWrongFalsely : Prop := reachLevelsRow.holds Try.pinned (OpenSpec.ofChange reachLevelsWrong)

/-- 'supergraphlaw26.ReachLeast': WHATEVER THE INPUT: true; the input reads as it did. -/
def reachLeastSpec : ChangeSpec := { name := "reachLeast", fn := fun _ => fun
  | [d1, d2] => { results := [.lit (.bool true)], args := [d1, d2] }
  | _ => none }
def reachLeastRow : OpenClaim := { program := "ytifhefgdimgkiaa", sum := "6b8384cd77c42fc1aaf098c94ff908f3cc456d5b1db0fcc3c50c918586d9a008", func := "supergraph/supergraphlaw26.ReachLeast", spec := "reachLeast", unfollowed := true, recurses := true, loops := true, plainKeys := false, apart := false }
def ReachLeastSaid : Prop := reachLeastRow.holds Try.pinned (OpenSpec.ofChange reachLeastSpec)

/-- ITS FALSE NEIGHBOUR: 'it returns false'. Refute it at one input. -/
def reachLeastWrong : ChangeSpec := { name := "reachLeast", fn := fun _ => fun
  | [d1, d2] => { results := [.lit (.bool false)], args := [d1, d2] }
  | _ => none }
def ReachLeastWrongFalsely : Prop := reachLeastRow.holds Try.pinned (OpenSpec.ofChange reachLeastWrong)

/-- 'supergraphlaw26.ReachGets': WHATEVER THE INPUT: true; the input reads as it did. -/
def reachGetsSpec : ChangeSpec := { name := "reachGets", fn := fun _ => fun
  | [d1, d2] => { results := [.lit (.bool true)], args := [d1, d2] }
  | _ => none }
def reachGetsRow : OpenClaim := { program := "ytifhefgdimgkiaa", sum := "6b8384cd77c42fc1aaf098c94ff908f3cc456d5b1db0fcc3c50c918586d9a008", func := "supergraph/supergraphlaw26.ReachGets", spec := "reachGets", unfollowed := true, recurses := true, loops := true, plainKeys := false, apart := false }
def ReachGetsSaid : Prop := reachGetsRow.holds Try.pinned (OpenSpec.ofChange reachGetsSpec)

/-- ITS FALSE NEIGHBOUR: 'it returns false'. Refute it at one input. -/
def reachGetsWrong : ChangeSpec := { name := "reachGets", fn := fun _ => fun
  | [d1, d2] => { results := [.lit (.bool false)], args := [d1, d2] }
  | _ => none }
def ReachGetsWrongFalsely : Prop := reachGetsRow.holds Try.pinned (OpenSpec.ofChange reachGetsWrong)

/- THE SECOND FORM. 'bulk': how many values and letters a reading holds, each counted each time it is reached (what is shared counts as often as it is met; a slice's spare places count too). A statement '..UptoSaid' is the law's where the arguments, and the package variables that the reading takes, are together of bulk at most 1048576: NARROWER than '..Said'. Prove '..Said' where nothing that the law and all that it calls make is longer than what came in: it says more and counts as full. Else prove '..UptoSaid'. A law counts once. -/
mutual
def uptoBulk {H : Type} : DataW H → Nat
  | .lit (.string bytes) => bytes.length + 1
  | .lit _ => 1
  | .nil => 1
  | .ptr d => uptoBulk d + 1
  | .slice elems spare => uptoBulkAll elems + uptoBulkAll spare + 1
  | .agg parts => uptoBulkAll parts + 1
  | .iface _ d => uptoBulk d + 1
  | .map entries => uptoBulkEntries entries + 1
  | .held _ => 1
def uptoBulkAll {H : Type} : List (DataW H) → Nat
  | [] => 0
  | d :: r => uptoBulk d + uptoBulkAll r
def uptoBulkEntries {H : Type} : List (Lit × DataW H) → Nat
  | [] => 0
  | x :: r => uptoBulkEntry x + uptoBulkEntries r
def uptoBulkEntry {H : Type} : Lit × DataW H → Nat
  | (.string bytes, d) => bytes.length + uptoBulk d + 1
  | (_, d) => uptoBulk d + 1
 end
def uptoSmall : (H : Type) → List (DataW H) → Bool := fun _ ds => decide (uptoBulkAll ds ≤ 1048576)
def OpenSpec.upto (s : _root_.Go.ChangeSpec) : _root_.Go.OpenSpec := { _root_.Go.OpenSpec.ofChange s with cond := some uptoSmall }

/-- 'supergraphlaw26.ReachGraphs', WHERE WHAT IT READS IS OF BULK AT MOST 1048576: true; the input reads as it did. -/
def reachGraphsUptoRow : OpenClaim := { program := "ytifhefgdimgkiaa", sum := "6b8384cd77c42fc1aaf098c94ff908f3cc456d5b1db0fcc3c50c918586d9a008", func := "supergraph/supergraphlaw26.ReachGraphs", spec := "reachGraphs", unfollowed := true, recurses := true, loops := true, plainKeys := false, apart := false, narrowed := true }
def ReachGraphsUptoSaid : Prop := reachGraphsUptoRow.holds Try.pinned (OpenSpec.upto reachGraphsSpec)

/-- 'supergraphlaw26.ReachGrows', WHERE WHAT IT READS IS OF BULK AT MOST 1048576: true; the input reads as it did. -/
def reachGrowsUptoRow : OpenClaim := { program := "ytifhefgdimgkiaa", sum := "6b8384cd77c42fc1aaf098c94ff908f3cc456d5b1db0fcc3c50c918586d9a008", func := "supergraph/supergraphlaw26.ReachGrows", spec := "reachGrows", unfollowed := true, recurses := true, loops := true, plainKeys := false, apart := false, narrowed := true }
def ReachGrowsUptoSaid : Prop := reachGrowsUptoRow.holds Try.pinned (OpenSpec.upto reachGrowsSpec)

/-- 'supergraphlaw26.ReachOrders', WHERE WHAT IT READS IS OF BULK AT MOST 1048576: true; the input reads as it did. -/
def reachOrdersUptoRow : OpenClaim := { program := "ytifhefgdimgkiaa", sum := "6b8384cd77c42fc1aaf098c94ff908f3cc456d5b1db0fcc3c50c918586d9a008", func := "supergraph/supergraphlaw26.ReachOrders", spec := "reachOrders", unfollowed := true, recurses := true, loops := true, plainKeys := false, apart := false, narrowed := true }
def ReachOrdersUptoSaid : Prop := reachOrdersUptoRow.holds Try.pinned (OpenSpec.upto reachOrdersSpec)

/-- 'supergraphlaw26.ReachLevels', WHERE WHAT IT READS IS OF BULK AT MOST 1048576: true; the input reads as it did. -/
def reachLevelsUptoRow : OpenClaim := { program := "ytifhefgdimgkiaa", sum := "6b8384cd77c42fc1aaf098c94ff908f3cc456d5b1db0fcc3c50c918586d9a008", func := "supergraph/supergraphlaw26.ReachLevels", spec := "reachLevels", unfollowed := true, recurses := true, loops := true, plainKeys := false, apart := false, narrowed := true }
def ReachLevelsUptoSaid : Prop := reachLevelsUptoRow.holds Try.pinned (OpenSpec.upto reachLevelsSpec)

/-- 'supergraphlaw26.ReachLeast', WHERE WHAT IT READS IS OF BULK AT MOST 1048576: true; the input reads as it did. -/
def reachLeastUptoRow : OpenClaim := { program := "ytifhefgdimgkiaa", sum := "6b8384cd77c42fc1aaf098c94ff908f3cc456d5b1db0fcc3c50c918586d9a008", func := "supergraph/supergraphlaw26.ReachLeast", spec := "reachLeast", unfollowed := true, recurses := true, loops := true, plainKeys := false, apart := false, narrowed := true }
def ReachLeastUptoSaid : Prop := reachLeastUptoRow.holds Try.pinned (OpenSpec.upto reachLeastSpec)

/-- 'supergraphlaw26.ReachGets', WHERE WHAT IT READS IS OF BULK AT MOST 1048576: true; the input reads as it did. -/
def reachGetsUptoRow : OpenClaim := { program := "ytifhefgdimgkiaa", sum := "6b8384cd77c42fc1aaf098c94ff908f3cc456d5b1db0fcc3c50c918586d9a008", func := "supergraph/supergraphlaw26.ReachGets", spec := "reachGets", unfollowed := true, recurses := true, loops := true, plainKeys := false, apart := false, narrowed := true }
def ReachGetsUptoSaid : Prop := reachGetsUptoRow.holds Try.pinned (OpenSpec.upto reachGetsSpec)

end Rows
end Go.Proofs.Ytifhefgdimgkiaa
