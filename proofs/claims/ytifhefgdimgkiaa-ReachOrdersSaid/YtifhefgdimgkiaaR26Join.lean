/-
  YtifhefgdimgkiaaJoin: the laws of this seat return true for every input, each argument reads as it read. No conditions.
-/
import Derived.Test.YtifhefgdimgkiaaRows
import Derived.Test.YtifhefgdimgkiaaP6
import Derived.WalkKit
import Derived.ProofKit
import Derived.OpenShut
namespace Go.Proofs.Ytifhefgdimgkiaa
open Go.ChangeShapes Go.WideShapes Go.ChangeAt Go.RowKit
set_option linter.unusedVariables false
set_option linter.unusedSimpArgs false

theorem Try.own : ownKnob Try.prog.godebug = none := by kernel_rfl
theorem Try.laidOut : laidOutB Try.prog = true := by kernel_rfl


theorem Try.pr : Go.GB.C26.Pr Try.prog where
  mixed := by kernel_rfl
  i3 := by kernel_rfl
  i4 := by kernel_rfl
  i5 := by kernel_rfl
  i6 := by kernel_rfl
  i7 := by kernel_rfl
  i8 := by kernel_rfl
  i9 := by kernel_rfl
  i10 := by kernel_rfl
  i11 := by kernel_rfl
  i12 := by kernel_rfl
  i13 := by kernel_rfl
  i14 := by kernel_rfl
  i15 := by kernel_rfl
  i16 := by kernel_rfl
  i17 := by kernel_rfl
  i18 := by kernel_rfl
  i19 := by kernel_rfl
  i20 := by kernel_rfl
  i21 := by kernel_rfl
  i22 := by kernel_rfl
  i23 := by kernel_rfl
  i24 := by kernel_rfl
  i25 := by kernel_rfl
  i26 := by kernel_rfl
  i27 := by kernel_rfl
  i28 := by kernel_rfl
  i29 := by kernel_rfl
  i30 := by kernel_rfl
  i31 := by kernel_rfl
  i32 := by kernel_rfl
  i33 := by kernel_rfl
  i34 := by kernel_rfl
  i35 := by kernel_rfl
  i36 := by kernel_rfl
  i37 := by kernel_rfl
  i38 := by kernel_rfl
  i39 := by kernel_rfl
  i40 := by kernel_rfl
  i41 := by kernel_rfl
  i42 := by kernel_rfl
  i43 := by kernel_rfl
  i44 := by kernel_rfl
  i45 := by kernel_rfl
  i46 := by kernel_rfl
  i47 := by kernel_rfl

set_option maxRecDepth 100000 in
theorem reachOrders_lifted (os : Os) (started : os.Started) (H : Type) (enc : TypeId × Value → H) :
    ReturnsInHanded {} Try.checked os 5 .any (Rows.reachOrdersSpec.pre6 enc Try.prog Try.f5 Rows.reachOrdersRow.domain false) (Rows.reachOrdersSpec.post enc Try.prog Try.f5 false true false false) := by
  refine returnsInHanded_of_change (C := Try.checked) Try.own started (by kernel_rfl) Try.func5
    (ChangeSpec.witness6 (enc := enc) (C := Try.checked) false ⟨#[], #[.agg #[.slice none 0 0, .slice none 0 0, .slice none 0 0, .slice none 0 0], .agg #[.string .empty, .slice none 0 0, .string .empty]], []⟩ 8 (by kernel_rfl) (by kernel_rfl) (by kernel_rfl) (by kernel_rfl)) ?_
  intro W base args ds gs before hval hW hcnd _
  refine Go.GB.law_ok [3, 4, 9, 22, 23, 25, 26, 27, 29, 30, 34, 38, 40, 46, 48, 103, 104, 105, 106, 108, 110, 112, 114, 116, 118, 119, 121, 123, 125] (by kernel_rfl) Try.laidOut (by kernel_rfl) (by kernel_rfl) Try.underlying4 rfl (fun ds h => ?_) W base args ds gs before hval hW (fun vs h => ?_)
  · have h : ds.length = 2 := h.trans (by kernel_rfl)
    obtain ⟨a, b, rfl⟩ := Go.GB.len2 h; rfl
  · rw [Try.params5] at h
    have g0 := h; clear h
    obtain ⟨xs1, r, rfl, k1, g1⟩ := g0.cons_inv (m := 4) (sh := Go.GB.C26.superSh) (by kernel_rfl)
    obtain ⟨s1, rfl⟩ := Go.GB.C26.super_of k1
    obtain ⟨xs2, r, rfl, k2, g2⟩ := g1.cons_inv (m := 4) (sh := Go.GB.C26.askSh) (by kernel_rfl)
    obtain ⟨a2, rfl, h2⟩ := Go.GB.C26.ask_of k2
    obtain rfl := g2.nil_inv
    rw [Go.GB.argV_agg (by kernel_rfl), Go.GB.argV_agg (by kernel_rfl)]
    exact Go.GB.C26.reachOrders Try.pr s1 a2 h2
theorem reachOrders_holds : Rows.ReachOrdersSaid :=
  OpenClaim.holds_of_wide 5 Try.f5 rfl rfl rfl rfl rfl rfl rfl ⟨rfl, rfl, rfl, rfl, rfl⟩ rfl rfl rfl rfl rfl (by kernel_rfl) Try.func5 (by kernel_rfl)
    (of_decide_eq_true (by kernel_rfl)) (by unfold Func.isWrapper; first | (rw [if_pos (by decide +kernel)]; kernel_rfl) | (rw [if_neg (by decide +kernel)]; exact ⟨rfl, rfl⟩))
    (fun os started H enc _ => reachOrders_lifted os started H enc)

end Go.Proofs.Ytifhefgdimgkiaa