/-
  YtkhekeacdnhkpaaJoin: the laws of this seat return true for every input, each argument reads as it read. No conditions.
-/
import Derived.Test.YtkhekeacdnhkpaaRows
import Derived.Test.YtkhekeacdnhkpaaP6
import Derived.WalkKit
import Derived.ProofKit
import Derived.OpenShut
namespace Go.Proofs.Ytkhekeacdnhkpaa
open Go.ChangeShapes Go.WideShapes Go.ChangeAt Go.RowKit
set_option linter.unusedVariables false
set_option linter.unusedSimpArgs false

theorem Try.own : ownKnob Try.prog.godebug = none := by kernel_rfl
theorem Try.laidOut : laidOutB Try.prog = true := by kernel_rfl
theorem andT {a b : Bool} (h : a = true) (k : b = true) : (a && b) = true := by rw [h, k]; rfl

theorem Try.sp : ∀ e i n xs, Go.GB.spV 26 e = some i → xs.length * Try.prog.bytesOf e ≤ reachBytes → xs.length ≤ maxLen → (∀ c ∈ xs, Go.GB.WT Try.prog n e c) → Go.GB.YA i (.lst xs) :=
  Go.GB.C11.spV_ok (by kernel_rfl) (by kernel_rfl)

theorem Try.pr : Go.GB.C11.Pr Try.prog where
  mixed := by kernel_rfl
  i12 := by kernel_rfl
  i13 := by kernel_rfl
  i14 := by kernel_rfl
  i15 := by kernel_rfl
  i29 := by kernel_rfl
  i31 := by kernel_rfl
  i40 := by kernel_rfl
  i44 := by kernel_rfl
  i45 := by kernel_rfl
  i46 := by kernel_rfl
  i47 := by kernel_rfl
  i48 := by kernel_rfl
  i49 := by kernel_rfl
  i50 := by kernel_rfl
  i51 := by kernel_rfl
  i52 := by kernel_rfl
  i53 := by kernel_rfl
  i54 := by kernel_rfl
  i55 := by kernel_rfl
  i56 := by kernel_rfl
  i57 := by kernel_rfl
  i58 := by kernel_rfl
  i68 := by kernel_rfl
  i85 := by kernel_rfl
  i86 := by kernel_rfl
  i87 := by kernel_rfl
  i88 := by kernel_rfl
  i89 := by kernel_rfl
  i90 := by kernel_rfl
  i91 := by kernel_rfl
  i92 := by kernel_rfl
  i93 := by kernel_rfl
  i94 := by kernel_rfl
  i95 := by kernel_rfl
  i96 := by kernel_rfl
  i97 := by kernel_rfl
  i98 := by kernel_rfl
  i99 := by kernel_rfl
  i100 := by kernel_rfl
  i101 := by kernel_rfl
  i102 := by kernel_rfl
  i103 := by kernel_rfl
  i104 := by kernel_rfl
  i105 := by kernel_rfl
  i106 := by kernel_rfl
  i107 := by kernel_rfl
  i108 := by kernel_rfl
  i109 := by kernel_rfl
  i110 := by kernel_rfl
  i126 := by kernel_rfl
  i134 := by kernel_rfl
  i136 := by kernel_rfl
  i140 := by kernel_rfl
  i141 := by kernel_rfl
  i142 := by kernel_rfl
  i143 := by kernel_rfl
  i144 := by kernel_rfl
  i145 := by kernel_rfl
  i146 := by kernel_rfl
  i147 := by kernel_rfl
  i148 := by kernel_rfl
  i149 := by kernel_rfl
  i150 := by kernel_rfl
  i151 := by kernel_rfl
  i152 := by kernel_rfl
  i153 := by kernel_rfl
  i154 := by kernel_rfl
  i155 := by kernel_rfl
  i156 := by kernel_rfl
  i169 := by kernel_rfl
  i170 := by kernel_rfl
  i171 := by kernel_rfl
  i172 := by kernel_rfl
  i173 := by kernel_rfl
  i174 := by kernel_rfl
  i184 := by kernel_rfl
  i185 := by kernel_rfl
  i186 := by kernel_rfl

set_option maxRecDepth 100000 in
theorem abstractSub_lifted (os : Os) (started : os.Started) (H : Type) (enc : TypeId × Value → H) :
    ReturnsInHanded {} Try.checked os 13 .any (Rows.abstractSubSpec.pre6 enc Try.prog Try.f13 Rows.abstractSubRow.domain false) (Rows.abstractSubSpec.post enc Try.prog Try.f13 false true false false) := by
  refine Go.GB.handed (C := Try.checked) Try.own started (by kernel_rfl) Try.func13
    (ChangeSpec.witness6 (enc := enc) (C := Try.checked) false ⟨#[], #[.agg #[.slice none 0 0], .agg #[.string .empty, .slice none 0 0], .agg #[.string .empty, .slice none 0 0]], []⟩ 8 (by kernel_rfl) (by kernel_rfl) (by kernel_rfl) (by kernel_rfl)) ?_
  intro W base args ds gs before hval hW hwt
  refine Go.GB.law_ok [3, 4, 9, 22, 23, 24, 26, 27, 29, 32, 34, 94, 96, 100, 104, 105, 106, 108, 112, 116, 148, 150] (by kernel_rfl) Try.laidOut (by kernel_rfl) (by kernel_rfl) Try.underlying4 rfl (fun ds h => ?_) W base args ds gs before hval hW hwt (fun vs h => ?_)
  · have h : ds.length = 3 := h.trans (by kernel_rfl)
    obtain ⟨a, b, c, rfl⟩ := Go.GB.len3 h; rfl
  · rw [Try.params13] at h
    have g0 := h; clear h
    obtain ⟨xs1, r, rfl, k1, g1⟩ := g0.cons_inv (m := 14) (sh := Go.GB.docSh) Try.sp (by kernel_rfl)
    obtain ⟨d1, rfl, j1⟩ := Go.GB.doc_sh0 k1
    obtain ⟨xs2, r, rfl, k2, g2⟩ := g1.cons_inv (m := 14) (sh := Go.GB.refSh) Try.sp (by kernel_rfl)
    obtain ⟨r2, rfl, j2⟩ := Go.GB.C11.ref_sh0 k2
    obtain ⟨xs3, r, rfl, k3, g3⟩ := g2.cons_inv (m := 14) (sh := Go.GB.refSh) Try.sp (by kernel_rfl)
    obtain ⟨r3, rfl, j3⟩ := Go.GB.C11.ref_sh0 k3
    obtain rfl := g3.nil_inv
    rw [Go.GB.argV_agg (by kernel_rfl), Go.GB.argV_agg (by kernel_rfl), Go.GB.argV_agg (by kernel_rfl)]
    exact Go.GB.C11.abstractSub_ok Try.pr d1 j1 r2 r3 j2 j3
set_option maxRecDepth 100000 in
set_option maxHeartbeats 4000000 in
theorem abstractSub_closed : joinedFacts Try.prog 13 Try.f13 Rows.abstractSubSpec Rows.abstractSubRow = true := by
  unfold joinedFacts
  repeat' (with_reducible refine andT ?_ ?_)
  all_goals as_aux_lemma => kernel_rfl
theorem abstractSub_holds : Rows.AbstractSubSaid :=
  OpenClaim.holds_of_wide 13 Try.f13 rfl rfl rfl rfl rfl rfl rfl ⟨rfl, rfl, rfl, rfl, rfl⟩ rfl rfl rfl rfl rfl (by kernel_rfl) Try.func13 abstractSub_closed
    (of_decide_eq_true (by kernel_rfl)) (by unfold Func.isWrapper; first | (rw [if_pos (by decide +kernel)]; kernel_rfl) | (rw [if_neg (by decide +kernel)]; exact ⟨rfl, rfl⟩))
    (fun os started H enc _ => abstractSub_lifted os started H enc)

end Go.Proofs.Ytkhekeacdnhkpaa