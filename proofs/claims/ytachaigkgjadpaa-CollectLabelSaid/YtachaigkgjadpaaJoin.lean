/-
  YtachaigkgjadpaaJoin: the laws of this seat return true for every input, each argument reads as it read. No conditions.
-/
import Derived.Test.YtachaigkgjadpaaRows
import Derived.Test.YtachaigkgjadpaaP7
import Derived.Test.YtachaigkgjadpaaP5
import Derived.WalkKit
import Derived.ProofKit
import Derived.OpenShut
namespace Go.Proofs.Ytachaigkgjadpaa
open Go.ChangeShapes Go.WideShapes Go.ChangeAt Go.RowKit
set_option linter.unusedVariables false
set_option linter.unusedSimpArgs false

theorem Try.own : ownKnob Try.prog.godebug = none := by kernel_rfl
theorem Try.laidOut : laidOutB Try.prog = true := by kernel_rfl
theorem andT {a b : Bool} (h : a = true) (k : b = true) : (a && b) = true := by rw [h, k]; rfl

theorem Try.sp : ∀ e i n xs, Go.GB.spS 26 58 e = some i → xs.length * Try.prog.bytesOf e ≤ reachBytes → xs.length ≤ maxLen → (∀ c ∈ xs, Go.GB.WT Try.prog n e c) → Go.GB.YS i (.lst xs) :=
  Go.GB.spS_ok (by kernel_rfl) (by kernel_rfl) (by kernel_rfl) (by kernel_rfl)

theorem Try.pr : Go.GB.C11.Pr Try.prog where
  mixed := by kernel_rfl
  i23 := by kernel_rfl
  i34 := by kernel_rfl
  i33 := by kernel_rfl
  i54 := by kernel_rfl
  i55 := by kernel_rfl
  i53 := by kernel_rfl
theorem Try.pr13 : Go.GB.C11.Pr13 Try.prog where
  toPr := Try.pr
  i42 := by kernel_rfl

theorem Try.pr18 : Go.GB.C18.Pr18 Try.prog where
  toPr13 := Try.pr13
  i3 := by kernel_rfl
  i4 := by kernel_rfl
  i5 := by kernel_rfl
  i8 := by kernel_rfl
  i9 := by kernel_rfl
  i12 := by kernel_rfl
  i17 := by kernel_rfl
  i18 := by kernel_rfl
  i22 := by kernel_rfl
  i24 := by kernel_rfl
  i25 := by kernel_rfl
  i28 := by kernel_rfl
  i31 := by kernel_rfl
  i32 := by kernel_rfl
  i35 := by kernel_rfl
  i36 := by kernel_rfl
  i40 := by kernel_rfl
  i41 := by kernel_rfl
  i43 := by kernel_rfl
  i52 := by kernel_rfl
  i56 := by kernel_rfl
  i59 := by kernel_rfl
  i60 := by kernel_rfl
  i64 := by kernel_rfl
  i65 := by kernel_rfl
  i66 := by kernel_rfl

set_option maxRecDepth 100000 in
theorem collectLabel_lifted (os : Os) (started : os.Started) (H : Type) (enc : TypeId × Value → H) :
    ReturnsInHanded {} Try.checked os 5 .any (Rows.collectLabelSpec.pre6 enc Try.prog Try.f5 Rows.collectLabelRow.domain false) (Rows.collectLabelSpec.post enc Try.prog Try.f5 false true false false) := by
  refine Go.GB.handed (C := Try.checked) Try.own started (by kernel_rfl) Try.func5
    (ChangeSpec.witness6 (enc := enc) (C := Try.checked) false ⟨#[], #[.slice none 0 0], []⟩ 8 (by kernel_rfl) (by kernel_rfl) (by kernel_rfl) (by kernel_rfl)) ?_
  intro W base args ds gs before hval hW hwt
  refine Go.GB.law_ok [9, 24] (by kernel_rfl) Try.laidOut (by kernel_rfl) (by kernel_rfl) Try.underlying4 rfl (fun ds h => ?_) W base args ds gs before hval hW hwt (fun vs h => ?_)
  · have h : ds.length = 1 := h.trans (by kernel_rfl)
    obtain ⟨a, rfl⟩ := Go.GB.len1 h; rfl
  · rw [Try.params5] at h
    have g0 := h; clear h
    obtain ⟨xs1, r, rfl, k1, g1⟩ := g0.cons_inv (m := 18) (sh := [.lst 16 [.str]]) Try.sp (by kernel_rfl)
    obtain ⟨l1, rfl, j1⟩ := Go.GB.C18.strsS_sh0 k1
    obtain rfl := g1.nil_inv
    rw [Go.GB.argV_one (by kernel_rfl)]
    exact Go.GB.C18.law_label Try.pr18 l1 j1
set_option maxRecDepth 100000 in
set_option maxHeartbeats 4000000 in
theorem collectLabel_closed : joinedFacts Try.prog 5 Try.f5 Rows.collectLabelSpec Rows.collectLabelRow = true := by
  unfold joinedFacts
  repeat' (with_reducible refine andT ?_ ?_)
  all_goals as_aux_lemma => kernel_rfl
theorem collectLabel_holds : Rows.CollectLabelSaid :=
  OpenClaim.holds_of_wide 5 Try.f5 rfl rfl rfl rfl rfl rfl rfl ⟨rfl, rfl, rfl, rfl, rfl⟩ rfl rfl rfl rfl rfl (by kernel_rfl) Try.func5 collectLabel_closed
    (of_decide_eq_true (by kernel_rfl)) (by unfold Func.isWrapper; first | (rw [if_pos (by decide +kernel)]; kernel_rfl) | (rw [if_neg (by decide +kernel)]; exact ⟨rfl, rfl⟩))
    (fun os started H enc _ => collectLabel_lifted os started H enc)

end Go.Proofs.Ytachaigkgjadpaa
