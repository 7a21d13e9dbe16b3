/-
  NARROWER THAN 'FOR EVERY INPUT', by the rows' own cells (each row's printed sentence says how): NeedPlaces: loops · NeedDepths: loops · NeedTree: loops · NeedParts: loops.
  DERIVED. THE GIVEN ROWS OF THIS SEAT. 4 by the template 'for every input the law returns true; each argument reads behind the call as it read before'; 0 by the template 'total and deterministic' (their statements: YtpakhiccblfcmaaGreatTotals.lean).
  GIVEN WITH THE SEED: the statements are not yours to turn. If you find one false, say at which input.
  Laid BY PROGRAM, IN A SANDBOX (cutbox-rows.mjs): the forced cells as the released guide's own fill.sh prints them over the translation d306c9505de0b7f6… (all of the seat's roots in one cut). By AI agents, Wed Nov 11 2026. No macro, syntax, notation, axiom, sorry.
-/
import Derived.Test.YtpakhiccblfcmaaGreatChecked
import GoSem.Claim
import GoSem.ClaimJoined
import GoSem.ClaimMapViews
import Derived.JoinedTies
import Derived.KernelRfl
namespace Go.Proofs.YtpakhiccblfcmaaGreat
/- THE CELL 'sum', in the pinned program and in every row, IS THE sha256 OF THE DUMP (.gsa) THAT YtpakhiccblfcmaaGreatProg.lean LOADS. Nothing in Lean hashes anything: it is a label: what it is worth is what the hold of that sum in a sandbox is worth. -/
noncomputable def Tryz.pinned : Pinned := { name := "ytpakhiccblfcmaagreat", sum := "d306c9505de0b7f69601b9724493d6d74cc2c60036d116f84b84b6dea13be80f", checked := Tryz.checked }
namespace Rows
def none {H : Type} : Left H := { results := [], args := [] }

/-- 'supergraphlaw29.NeedPlaces': WHATEVER THE INPUT: true; the input reads as it did. -/
def needPlacesSpec : ChangeSpec := { name := "needPlaces", fn := fun _ => fun
  | [d1, d2] => { results := [.lit (.bool true)], args := [d1, d2] }
  | _ => none }
def needPlacesRow : OpenClaim := { program := "ytpakhiccblfcmaagreat", sum := "d306c9505de0b7f69601b9724493d6d74cc2c60036d116f84b84b6dea13be80f", func := "supergraph/supergraphlaw29.NeedPlaces", spec := "needPlaces", unfollowed := true, recurses := true, loops := true, plainKeys := false, apart := false }
def NeedPlacesSaid : Prop := needPlacesRow.holds Tryz.pinned (OpenSpec.ofChange needPlacesSpec)

/-- ITS FALSE NEIGHBOUR: 'it returns false'. Refute it at one input. -/
def needPlacesWrong : ChangeSpec := { name := "needPlaces", fn := fun _ => fun
  | [d1, d2] => { results := [.lit (.bool false)], args := [d1, d2] }
  | _ => none }
def NeedPlacesWrongFalsely : Prop := needPlacesRow.holds Tryz.pinned (OpenSpec.ofChange needPlacesWrong)

/-- 'supergraphlaw29.NeedDepths': WHATEVER THE INPUT: true; the input reads as it did. -/
def needDepthsSpec : ChangeSpec := { name := "needDepths", fn := fun _ => fun
  | [d1, d2] => { results := [.lit (.bool true)], args := [d1, d2] }
  | _ => none }
def needDepthsRow : OpenClaim := { program := "ytpakhiccblfcmaagreat", sum := "d306c9505de0b7f69601b9724493d6d74cc2c60036d116f84b84b6dea13be80f", func := "supergraph/supergraphlaw29.NeedDepths", spec := "needDepths", unfollowed := true, recurses := true, loops := true, plainKeys := false, apart := false }
def NeedDepthsSaid : Prop := needDepthsRow.holds Tryz.pinned (OpenSpec.ofChange needDepthsSpec)

/-- ITS FALSE NEIGHBOUR: 'it returns false'. Refute it at one input. -/
def needDepthsWrong : ChangeSpec := { name := "needDepths", fn := fun _ => fun
  | [d1, d2] => { results := [.lit (.bool false)], args := [d1, d2] }
  | _ => none }
def NeedDepthsWrongFalsely : Prop := needDepthsRow.holds Tryz.pinned (OpenSpec.ofChange needDepthsWrong)

/-- 'supergraphlaw29.NeedTree': WHATEVER THE INPUT: true; the input reads as it did. -/
def needTreeSpec : ChangeSpec := { name := "needTree", fn := fun _ => fun
  | [d1, d2] => { results := [.lit (.bool true)], args := [d1, d2] }
  | _ => none }
def needTreeRow : OpenClaim := { program := "ytpakhiccblfcmaagreat", sum := "d306c9505de0b7f69601b9724493d6d74cc2c60036d116f84b84b6dea13be80f", func := "supergraph/supergraphlaw29.NeedTree", spec := "needTree", unfollowed := true, recurses := true, loops := true, plainKeys := false, apart := false }
def NeedTreeSaid : Prop := needTreeRow.holds Tryz.pinned (OpenSpec.ofChange needTreeSpec)

/-- ITS FALSE NEIGHBOUR: 'it returns false'. Refute it at one input. -/
def needTreeWrong : ChangeSpec := { name := "needTree", fn := fun _ => fun
  | [d1, d2] => { results := [.lit (.bool false)], args := [d1, d2] }
  | _ => none }
def NeedTreeWrongFalsely : Prop := needTreeRow.holds Tryz.pinned (OpenSpec.ofChange needTreeWrong)

/-- 'supergraphlaw29.NeedParts': WHATEVER THE INPUT: true; the input reads as it did. -/
def needPartsSpec : ChangeSpec := { name := "needParts", fn := fun _ => fun
  | [d1, d2] => { results := [.lit (.bool true)], args := [d1, d2] }
  | _ => none }
def needPartsRow : OpenClaim := { program := "ytpakhiccblfcmaagreat", sum := "d306c9505de0b7f69601b9724493d6d74cc2c60036d116f84b84b6dea13be80f", func := "supergraph/supergraphlaw29.NeedParts", spec := "needParts", unfollowed := true, recurses := true, loops := true, plainKeys := false, apart := false }
def NeedPartsSaid : Prop := needPartsRow.holds Tryz.pinned (OpenSpec.ofChange needPartsSpec)

/-- ITS FALSE NEIGHBOUR: 'it returns false'. Refute it at one input. -/
def needPartsWrong : ChangeSpec := { name := "needParts", fn := fun _ => fun
  | [d1, d2] => { results := [.lit (.bool false)], args := [d1, d2] }
  | _ => none }
def NeedPartsWrongFalsely : Prop := needPartsRow.holds Tryz.pinned (OpenSpec.ofChange needPartsWrong)

/- THE SECOND FORM. 'bulk': how many values and letters a reading holds, each counted each time it is reached (what is shared counts as often as it is met; a slice's spare places count too). A statement '..UptoSaid' is the law's where the arguments, and the package variables that the reading takes, are together of bulk at most 1048576: NARROWER than '..Said'. Prove '..Said' where nothing that the law and all that it calls make is longer than what came in: it says more and counts as full. Else prove '..UptoSaid'. A law counts once. -/
mutual
def uptoBulk {H : Type} : DataW H → Nat
  | .lit (.string bytes) => bytes.length + 1
  | .lit _ => 1
  | .nil => 1
  | .ptr d => uptoBulk d + 1
  | .slice elems spare => uptoBulkAll elems + uptoBulkAll spare + 1
  | .agg parts => uptoBulkAll parts + 1
  | .iface _ d => uptoBulk d + 1
  | .map entries => uptoBulkEntries entries + 1
  | .held _ => 1
def uptoBulkAll {H : Type} : List (DataW H) → Nat
  | [] => 0
  | d :: r => uptoBulk d + uptoBulkAll r
def uptoBulkEntries {H : Type} : List (Lit × DataW H) → Nat
  | [] => 0
  | x :: r => uptoBulkEntry x + uptoBulkEntries r
def uptoBulkEntry {H : Type} : Lit × DataW H → Nat
  | (.string bytes, d) => bytes.length + uptoBulk d + 1
  | (_, d) => uptoBulk d + 1
 end
def uptoSmall : (H : Type) → List (DataW H) → Bool := fun _ ds => decide (uptoBulkAll ds ≤ 1048576)
def OpenSpec.upto (s : _root_.Go.ChangeSpec) : _root_.Go.OpenSpec := { _root_.Go.OpenSpec.ofChange s with cond := some uptoSmall }

/-- 'supergraphlaw29.NeedPlaces', WHERE WHAT IT READS IS OF BULK AT MOST 1048576: true; the input reads as it did. -/
def needPlacesUptoRow : OpenClaim := { program := "ytpakhiccblfcmaagreat", sum := "d306c9505de0b7f69601b9724493d6d74cc2c60036d116f84b84b6dea13be80f", func := "supergraph/supergraphlaw29.NeedPlaces", spec := "needPlaces", unfollowed := true, recurses := true, loops := true, plainKeys := false, apart := false, narrowed := true }
def NeedPlacesUptoSaid : Prop := needPlacesUptoRow.holds Tryz.pinned (OpenSpec.upto needPlacesSpec)

/-- 'supergraphlaw29.NeedDepths', WHERE WHAT IT READS IS OF BULK AT MOST 1048576: true; the input reads as it did. -/
def needDepthsUptoRow : OpenClaim := { program := "ytpakhiccblfcmaagreat", sum := "d306c9505de0b7f69601b9724493d6d74cc2c60036d116f84b84b6dea13be80f", func := "supergraph/supergraphlaw29.NeedDepths", spec := "needDepths", unfollowed := true, recurses := true, loops := true, plainKeys := false, apart := false, narrowed := true }
def NeedDepthsUptoSaid : Prop := needDepthsUptoRow.holds Tryz.pinned (OpenSpec.upto needDepthsSpec)

/-- 'supergraphlaw29.NeedTree', WHERE WHAT IT READS IS OF BULK AT MOST 1048576: true; the input reads as it did. -/
def needTreeUptoRow : OpenClaim := { program := "ytpakhiccblfcmaagreat", sum := "d306c9505de0b7f69601b9724493d6d74cc2c60036d116f84b84b6dea13be80f", func := "supergraph/supergraphlaw29.NeedTree", spec := "needTree", unfollowed := true, recurses := true, loops := true, plainKeys := false, apart := false, narrowed := true }
def NeedTreeUptoSaid : Prop := needTreeUptoRow.holds Tryz.pinned (OpenSpec.upto needTreeSpec)

/-- 'supergraphlaw29.NeedParts', WHERE WHAT IT READS IS OF BULK AT MOST 1048576: true; the input reads as it did. -/
def needPartsUptoRow : OpenClaim := { program := "ytpakhiccblfcmaagreat", sum := "d306c9505de0b7f69601b9724493d6d74cc2c60036d116f84b84b6dea13be80f", func := "supergraph/supergraphlaw29.NeedParts", spec := "needParts", unfollowed := true, recurses := true, loops := true, plainKeys := false, apart := false, narrowed := true }
def NeedPartsUptoSaid : Prop := needPartsUptoRow.holds Tryz.pinned (OpenSpec.upto needPartsSpec)

end Rows
end Go.Proofs.YtpakhiccblfcmaaGreat
