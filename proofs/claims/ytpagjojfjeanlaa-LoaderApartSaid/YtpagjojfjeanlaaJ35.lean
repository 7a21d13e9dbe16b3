/-
  YtpagjojfjeanlaaJoin: the laws of this seat return true for every input, each argument reads as it read. No conditions.
-/
import Derived.Test.YtpagjojfjeanlaaRows
import Derived.Test.YtpagjojfjeanlaaP6
import Derived.Test.YtpagjojfjeanlaaP7
import Derived.Test.YtpagjojfjeanlaaP4
import Derived.WalkKit
import Derived.ProofKit
import Derived.OpenShut
namespace Go.Proofs.Ytpagjojfjeanlaa
open Go.ChangeShapes Go.WideShapes Go.ChangeAt Go.RowKit
set_option linter.unusedVariables false
set_option linter.unusedSimpArgs false

theorem Try.own : ownKnob Try.prog.godebug = none := by kernel_rfl
theorem Try.laidOut : laidOutB Try.prog = true := by kernel_rfl
theorem andT {a b : Bool} (h : a = true) (k : b = true) : (a && b) = true := by rw [h, k]; rfl

theorem Try.sp : ∀ e i n xs, Go.GB.spV 34 e = some i → xs.length * Try.prog.bytesOf e ≤ reachBytes → xs.length ≤ maxLen → (∀ c ∈ xs, Go.GB.WT Try.prog n e c) → Go.GB.YA i (.lst xs) :=
  Go.GB.C35.spV_ok (by kernel_rfl) (by kernel_rfl)

theorem Try.pr : Go.GB.C35.Pr Try.prog where
  mixed := by kernel_rfl
  i3 := by kernel_rfl
  i4 := by kernel_rfl
  i6 := by kernel_rfl
  i7 := by kernel_rfl
  i9 := by kernel_rfl
  i10 := by kernel_rfl
  i12 := by kernel_rfl
  i14 := by kernel_rfl
  i16 := by kernel_rfl
  i17 := by kernel_rfl
  i18 := by kernel_rfl
  i19 := by kernel_rfl
  i20 := by kernel_rfl
  i21 := by kernel_rfl
  i24 := by kernel_rfl
  i25 := by kernel_rfl
  i26 := by kernel_rfl
  i31 := by kernel_rfl
  i32 := by kernel_rfl
  i33 := by kernel_rfl
  i34 := by kernel_rfl
  i38 := by kernel_rfl
  i39 := by kernel_rfl
  i40 := by kernel_rfl
  i41 := by kernel_rfl
  i42 := by kernel_rfl
  i43 := by kernel_rfl
  i44 := by kernel_rfl
  i45 := by kernel_rfl
  i46 := by kernel_rfl
  i47 := by kernel_rfl
  i48 := by kernel_rfl

set_option maxRecDepth 100000 in
theorem loaderApart_lifted (os : Os) (started : os.Started) (H : Type) (enc : TypeId × Value → H) :
    ReturnsInHanded {} Try.checked os 6 .any (Rows.loaderApartSpec.pre6 enc Try.prog Try.f6 Rows.loaderApartRow.domain false) (Rows.loaderApartSpec.post enc Try.prog Try.f6 false true false false) := by
  refine Go.GB.handed (C := Try.checked) Try.own started (by kernel_rfl) Try.func6
    (ChangeSpec.witness6 (enc := enc) (C := Try.checked) false ⟨#[], #[.int .i64 0, .slice none 0 0, .slice none 0 0], []⟩ 8 (by kernel_rfl) (by kernel_rfl) (by kernel_rfl) (by kernel_rfl)) ?_
  intro W base args ds gs before hval hW hwt
  refine Go.GB.law_ok [3, 9, 31, 32, 34] (by kernel_rfl) Try.laidOut (by kernel_rfl) (by kernel_rfl) Try.underlying4 rfl (fun ds h => ?_) W base args ds gs before hval hW hwt (fun vs h => ?_)
  · have h : ds.length = 3 := h.trans (by kernel_rfl)
    obtain ⟨a, b, c, rfl⟩ := Go.GB.len3 h; rfl
  · rw [Try.params6] at h
    have g0 := h; clear h
    obtain ⟨xs1, r, rfl, k1, g1⟩ := g0.cons_inv (m := 14) (sh := [.int .i64]) Try.sp (by kernel_rfl)
    obtain ⟨n1, rfl, j1⟩ := Go.GB.C35.int_0 k1
    obtain ⟨xs2, r, rfl, k2, g2⟩ := g1.cons_inv (m := 14) (sh := [.num 0]) Try.sp (by kernel_rfl)
    obtain ⟨l2, rfl, j2, o2⟩ := Go.GB.C35.vals_0 k2
    obtain ⟨xs3, r, rfl, k3, g3⟩ := g2.cons_inv (m := 14) (sh := [.num 0]) Try.sp (by kernel_rfl)
    obtain ⟨l3, rfl, j3, o3⟩ := Go.GB.C35.vals_0 k3
    obtain rfl := g3.nil_inv
    rw [Go.GB.argV_one (by kernel_rfl), Go.GB.argV_one (by kernel_rfl), Go.GB.argV_one (by kernel_rfl)]
    exact Go.GB.C35.law_apart Try.pr n1 j1 l2 j2 o2 l3 j3 o3
set_option maxRecDepth 100000 in
set_option maxHeartbeats 4000000 in
theorem loaderApart_closed : joinedFacts Try.prog 6 Try.f6 Rows.loaderApartSpec Rows.loaderApartRow = true := by
  unfold joinedFacts
  repeat' (with_reducible refine andT ?_ ?_)
  all_goals as_aux_lemma => kernel_rfl
theorem loaderApart_holds : Rows.LoaderApartSaid :=
  OpenClaim.holds_of_wide 6 Try.f6 rfl rfl rfl rfl rfl rfl rfl ⟨rfl, rfl, rfl, rfl, rfl⟩ rfl rfl rfl rfl rfl (by kernel_rfl) Try.func6 loaderApart_closed
    (of_decide_eq_true (by kernel_rfl)) (by unfold Func.isWrapper; first | (rw [if_pos (by decide +kernel)]; kernel_rfl) | (rw [if_neg (by decide +kernel)]; exact ⟨rfl, rfl⟩))
    (fun os started H enc _ => loaderApart_lifted os started H enc)

end Go.Proofs.Ytpagjojfjeanlaa
