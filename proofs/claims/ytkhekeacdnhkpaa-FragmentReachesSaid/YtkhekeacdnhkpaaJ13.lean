/-
  YtkhekeacdnhkpaaJoin: the laws of this seat return true for every input, each argument reads as it read. No conditions.
-/
import Derived.Test.YtkhekeacdnhkpaaRows
import Derived.Test.YtkhekeacdnhkpaaP5
import Derived.WalkKit
import Derived.ProofKit
import Derived.OpenShut
namespace Go.Proofs.Ytkhekeacdnhkpaa
open Go.ChangeShapes Go.WideShapes Go.ChangeAt Go.RowKit
set_option linter.unusedVariables false
set_option linter.unusedSimpArgs false

theorem Try.own : ownKnob Try.prog.godebug = none := by kernel_rfl
theorem Try.laidOut : laidOutB Try.prog = true := by kernel_rfl
theorem andT {a b : Bool} (h : a = true) (k : b = true) : (a && b) = true := by rw [h, k]; rfl

theorem Try.sp : ∀ e i n xs, Go.GB.spS 26 58 e = some i → xs.length * Try.prog.bytesOf e ≤ reachBytes → xs.length ≤ maxLen → (∀ c ∈ xs, Go.GB.WT Try.prog n e c) → Go.GB.YS i (.lst xs) :=
  Go.GB.spS_ok (by kernel_rfl) (by kernel_rfl) (by kernel_rfl) (by kernel_rfl)

theorem Try.pr : Go.GB.C11.Pr Try.prog where
  mixed := by kernel_rfl
  i40 := by kernel_rfl
  i46 := by kernel_rfl
  i49 := by kernel_rfl
  i68 := by kernel_rfl
  i87 := by kernel_rfl
  i88 := by kernel_rfl
  i92 := by kernel_rfl
  i93 := by kernel_rfl
  i126 := by kernel_rfl
  i134 := by kernel_rfl
  i136 := by kernel_rfl
  i140 := by kernel_rfl

theorem Try.pr13 : Go.GB.C11.Pr13 Try.prog where
  toPr := Try.pr
  i8 := by kernel_rfl
  i32 := by kernel_rfl
  i33 := by kernel_rfl
  i34 := by kernel_rfl
  i35 := by kernel_rfl
  i36 := by kernel_rfl
  i37 := by kernel_rfl
  i38 := by kernel_rfl
  i41 := by kernel_rfl
  i69 := by kernel_rfl
  i70 := by kernel_rfl
  i71 := by kernel_rfl
  i72 := by kernel_rfl
  i73 := by kernel_rfl
  i74 := by kernel_rfl
  i77 := by kernel_rfl
  i78 := by kernel_rfl
  i79 := by kernel_rfl
  i80 := by kernel_rfl
  i127 := by kernel_rfl
  i133 := by kernel_rfl
  i135 := by kernel_rfl

set_option maxRecDepth 100000 in
theorem fragmentReaches_lifted (os : Os) (started : os.Started) (H : Type) (enc : TypeId × Value → H) :
    ReturnsInHanded {} Try.checked os 8 .any (Rows.fragmentReachesSpec.pre6 enc Try.prog Try.f8 Rows.fragmentReachesRow.domain false) (Rows.fragmentReachesSpec.post enc Try.prog Try.f8 false true false false) := by
  refine Go.GB.handed (C := Try.checked) Try.own started (by kernel_rfl) Try.func8
    (ChangeSpec.witness6 (enc := enc) (C := Try.checked) false ⟨#[], #[.agg #[.slice none 0 0, .slice none 0 0], .string .empty], []⟩ 8 (by kernel_rfl) (by kernel_rfl) (by kernel_rfl) (by kernel_rfl)) ?_
  intro W base args ds gs before hval hW hwt
  refine Go.GB.law_ok [3, 4, 9, 22, 23, 24, 26, 27, 29, 35, 36, 38, 56, 58, 74, 76, 79, 94, 96, 116, 207] (by kernel_rfl) Try.laidOut (by kernel_rfl) (by kernel_rfl) Try.underlying4 rfl (fun ds h => ?_) W base args ds gs before hval hW hwt (fun vs h => ?_)
  · have h : ds.length = 2 := h.trans (by kernel_rfl)
    obtain ⟨a, b, rfl⟩ := Go.GB.len2 h; rfl
  · rw [Try.params8] at h
    have g0 := h; clear h
    obtain ⟨xs1, r, rfl, k1, g1⟩ := g0.cons_inv (m := 14) (sh := Go.GB.querySh) Try.sp (by kernel_rfl)
    obtain ⟨q1, rfl, j1⟩ := Go.GB.query_sh0 k1
    obtain ⟨xs2, r, rfl, k2, g2⟩ := g1.cons_inv (m := 14) (sh := [.str]) Try.sp (by kernel_rfl)
    obtain ⟨s2, rfl, j2⟩ := Go.GB.strS_sh0 k2
    obtain rfl := g2.nil_inv
    rw [Go.GB.argV_agg (by kernel_rfl), Go.GB.argV_one (by kernel_rfl)]
    exact Go.GB.C11.fragmentReaches_ok Try.pr13 q1 j1 s2
set_option maxRecDepth 100000 in
set_option maxHeartbeats 4000000 in
theorem fragmentReaches_closed : joinedFacts Try.prog 8 Try.f8 Rows.fragmentReachesSpec Rows.fragmentReachesRow = true := by
  unfold joinedFacts
  repeat' (with_reducible refine andT ?_ ?_)
  all_goals as_aux_lemma => kernel_rfl
theorem fragmentReaches_holds : Rows.FragmentReachesSaid :=
  OpenClaim.holds_of_wide 8 Try.f8 rfl rfl rfl rfl rfl rfl rfl ⟨rfl, rfl, rfl, rfl, rfl⟩ rfl rfl rfl rfl rfl (by kernel_rfl) Try.func8 fragmentReaches_closed
    (of_decide_eq_true (by kernel_rfl)) (by unfold Func.isWrapper; first | (rw [if_pos (by decide +kernel)]; kernel_rfl) | (rw [if_neg (by decide +kernel)]; exact ⟨rfl, rfl⟩))
    (fun os started H enc _ => fragmentReaches_lifted os started H enc)

end Go.Proofs.Ytkhekeacdnhkpaa
