/-
  YtpagjojfjeanlaaJoin: the laws of this seat return true for every input, each argument reads as it read. No conditions.
-/
import Derived.Test.YtpagjojfjeanlaaRows
import Derived.Test.YtpagjojfjeanlaaP8
import Derived.Test.YtpagjojfjeanlaaP5
import Derived.WalkKit
import Derived.ProofKit
import Derived.OpenShut
namespace Go.Proofs.Ytpagjojfjeanlaa
open Go.ChangeShapes Go.WideShapes Go.ChangeAt Go.RowKit
set_option linter.unusedVariables false
set_option linter.unusedSimpArgs false

theorem Try.own : ownKnob Try.prog.godebug = none := by kernel_rfl
theorem Try.laidOut : laidOutB Try.prog = true := by kernel_rfl
theorem andT {a b : Bool} (h : a = true) (k : b = true) : (a && b) = true := by rw [h, k]; rfl

theorem Try.sp : ∀ e i n xs, Go.GB.spV 34 e = some i → xs.length * Try.prog.bytesOf e ≤ reachBytes → xs.length ≤ maxLen → (∀ c ∈ xs, Go.GB.WT Try.prog n e c) → Go.GB.YA i (.lst xs) :=
  Go.GB.C35.spV_ok (by kernel_rfl) (by kernel_rfl)

theorem Try.pr : Go.GB.C35.Pr Try.prog where
  mixed := by kernel_rfl
  i3 := by kernel_rfl
  i7 := by kernel_rfl
  i8 := by kernel_rfl
  i9 := by kernel_rfl
  i10 := by kernel_rfl
  i11 := by kernel_rfl
  i12 := by kernel_rfl
  i13 := by kernel_rfl
  i14 := by kernel_rfl
  i15 := by kernel_rfl
  i16 := by kernel_rfl
  i17 := by kernel_rfl
  i18 := by kernel_rfl
  i19 := by kernel_rfl
  i20 := by kernel_rfl
  i23 := by kernel_rfl
  i24 := by kernel_rfl
  i25 := by kernel_rfl
  i26 := by kernel_rfl
  i27 := by kernel_rfl
  i28 := by kernel_rfl
  i29 := by kernel_rfl
  i30 := by kernel_rfl
  i31 := by kernel_rfl
  i32 := by kernel_rfl
  i33 := by kernel_rfl
  i34 := by kernel_rfl
  i35 := by kernel_rfl
  i36 := by kernel_rfl
  i37 := by kernel_rfl
  i38 := by kernel_rfl
  i39 := by kernel_rfl
  i40 := by kernel_rfl
  i41 := by kernel_rfl
  i42 := by kernel_rfl
  i43 := by kernel_rfl
  i44 := by kernel_rfl
  i45 := by kernel_rfl
  i46 := by kernel_rfl
  i47 := by kernel_rfl
  i48 := by kernel_rfl

set_option maxRecDepth 100000 in
theorem loaderRuns_lifted (os : Os) (started : os.Started) (H : Type) (enc : TypeId × Value → H) :
    ReturnsInHanded {} Try.checked os 3 .any (Rows.loaderRunsSpec.pre6 enc Try.prog Try.f3 Rows.loaderRunsRow.domain false) (Rows.loaderRunsSpec.post enc Try.prog Try.f3 false true false false) := by
  refine Go.GB.handed (C := Try.checked) Try.own started (by kernel_rfl) Try.func3
    (ChangeSpec.witness6 (enc := enc) (C := Try.checked) false ⟨#[], #[.int .i64 0, .slice none 0 0], []⟩ 8 (by kernel_rfl) (by kernel_rfl) (by kernel_rfl) (by kernel_rfl)) ?_
  intro W base args ds gs before hval hW hwt
  refine Go.GB.law_ok [3, 9, 22, 31, 32, 34, 36] (by kernel_rfl) Try.laidOut (by kernel_rfl) (by kernel_rfl) Try.underlying4 rfl (fun ds h => ?_) W base args ds gs before hval hW hwt (fun vs h => ?_)
  · have h : ds.length = 2 := h.trans (by kernel_rfl)
    obtain ⟨a, b, rfl⟩ := Go.GB.len2 h; rfl
  · rw [Try.params3] at h
    have g0 := h; clear h
    obtain ⟨xs1, r, rfl, k1, g1⟩ := g0.cons_inv (m := 14) (sh := [.int .i64]) Try.sp (by kernel_rfl)
    obtain ⟨n1, rfl, j1⟩ := Go.GB.C35.int_0 k1
    obtain ⟨xs2, r, rfl, k2, g2⟩ := g1.cons_inv (m := 14) (sh := [.lst 104 (.int .i64 :: .int .i64 :: .int .i64 :: Go.GB.valSh)]) Try.sp (by kernel_rfl)
    obtain ⟨l2, rfl, j2, o2, p2⟩ := Go.GB.C35.steps_0 k2
    obtain rfl := g2.nil_inv
    rw [Go.GB.argV_one (by kernel_rfl), Go.GB.argV_one (by kernel_rfl)]
    exact Go.GB.C35.law_runs Try.pr n1 l2 j2 o2 p2
set_option maxRecDepth 100000 in
set_option maxHeartbeats 4000000 in
theorem loaderRuns_closed : joinedFacts Try.prog 3 Try.f3 Rows.loaderRunsSpec Rows.loaderRunsRow = true := by
  unfold joinedFacts
  repeat' (with_reducible refine andT ?_ ?_)
  all_goals as_aux_lemma => kernel_rfl
theorem loaderRuns_holds : Rows.LoaderRunsSaid :=
  OpenClaim.holds_of_wide 3 Try.f3 rfl rfl rfl rfl rfl rfl rfl ⟨rfl, rfl, rfl, rfl, rfl⟩ rfl rfl rfl rfl rfl (by kernel_rfl) Try.func3 loaderRuns_closed
    (of_decide_eq_true (by kernel_rfl)) (by unfold Func.isWrapper; first | (rw [if_pos (by decide +kernel)]; kernel_rfl) | (rw [if_neg (by decide +kernel)]; exact ⟨rfl, rfl⟩))
    (fun os started H enc _ => loaderRuns_lifted os started H enc)

end Go.Proofs.Ytpagjojfjeanlaa
