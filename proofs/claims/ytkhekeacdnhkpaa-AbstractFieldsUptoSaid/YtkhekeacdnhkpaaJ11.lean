/-
  YtkhekeacdnhkpaaJoin: a law of this seat returns true for every input of bulk at most 1048576, each argument reads as it read.
-/
import Derived.Test.YtkhekeacdnhkpaaRows
import Derived.Test.YtkhekeacdnhkpaaP6
import Derived.WalkKit
import Derived.ProofKit
import Derived.OpenShut
import Derived.Test.YtkhekeacdnhkpaaP7
namespace Go.Proofs.Ytkhekeacdnhkpaa
open Go.ChangeShapes Go.WideShapes Go.ChangeAt Go.RowKit
set_option linter.unusedVariables false
set_option linter.unusedSimpArgs false

theorem Try.own : ownKnob Try.prog.godebug = none := by kernel_rfl
theorem Try.laidOut : laidOutB Try.prog = true := by kernel_rfl
theorem andT {a b : Bool} (h : a = true) (k : b = true) : (a && b) = true := by rw [h, k]; rfl
theorem Try.bulkAll {H : Type} : ∀ l : List (DataW H), Rows.uptoBulkAll l = (l.map Rows.uptoBulk).sum
  | [] => by simp [Rows.uptoBulkAll]
  | x :: r => by simp only [Rows.uptoBulkAll, List.map_cons, List.sum_cons, Try.bulkAll r]
theorem Try.bulk {H : Type} : Go.GB.Bulk (H := H) Rows.uptoBulk where
  lit := fun l => by cases l <;> simp [Rows.uptoBulk]
  str := fun bs => by simp [Rows.uptoBulk]
  nil := by simp [Rows.uptoBulk]
  slice := fun e s => by simp only [Rows.uptoBulk, Try.bulkAll]; omega
  agg := fun ps => by simp only [Rows.uptoBulk, Try.bulkAll]; omega

theorem Try.sp : ∀ e i n xs, Go.GB.spV 26 e = some i → xs.length * Try.prog.bytesOf e ≤ reachBytes → xs.length ≤ maxLen → (∀ c ∈ xs, Go.GB.WT Try.prog n e c) → Go.GB.YA i (.lst xs) :=
  Go.GB.C11.spV_ok (by kernel_rfl) (by kernel_rfl)

theorem Try.pr : Go.GB.C11.Pr Try.prog where
  mixed := by kernel_rfl
  i12 := by kernel_rfl
  i13 := by kernel_rfl
  i14 := by kernel_rfl
  i15 := by kernel_rfl
  i29 := by kernel_rfl
  i31 := by kernel_rfl
  i40 := by kernel_rfl
  i44 := by kernel_rfl
  i45 := by kernel_rfl
  i46 := by kernel_rfl
  i47 := by kernel_rfl
  i48 := by kernel_rfl
  i49 := by kernel_rfl
  i50 := by kernel_rfl
  i51 := by kernel_rfl
  i52 := by kernel_rfl
  i53 := by kernel_rfl
  i54 := by kernel_rfl
  i55 := by kernel_rfl
  i56 := by kernel_rfl
  i57 := by kernel_rfl
  i58 := by kernel_rfl
  i68 := by kernel_rfl
  i85 := by kernel_rfl
  i86 := by kernel_rfl
  i87 := by kernel_rfl
  i88 := by kernel_rfl
  i89 := by kernel_rfl
  i90 := by kernel_rfl
  i91 := by kernel_rfl
  i92 := by kernel_rfl
  i93 := by kernel_rfl
  i94 := by kernel_rfl
  i95 := by kernel_rfl
  i96 := by kernel_rfl
  i97 := by kernel_rfl
  i98 := by kernel_rfl
  i99 := by kernel_rfl
  i100 := by kernel_rfl
  i101 := by kernel_rfl
  i102 := by kernel_rfl
  i103 := by kernel_rfl
  i104 := by kernel_rfl
  i105 := by kernel_rfl
  i106 := by kernel_rfl
  i107 := by kernel_rfl
  i108 := by kernel_rfl
  i109 := by kernel_rfl
  i110 := by kernel_rfl
  i126 := by kernel_rfl
  i134 := by kernel_rfl
  i136 := by kernel_rfl
  i140 := by kernel_rfl
  i141 := by kernel_rfl
  i142 := by kernel_rfl
  i143 := by kernel_rfl
  i144 := by kernel_rfl
  i145 := by kernel_rfl
  i146 := by kernel_rfl
  i147 := by kernel_rfl
  i148 := by kernel_rfl
  i149 := by kernel_rfl
  i150 := by kernel_rfl
  i151 := by kernel_rfl
  i152 := by kernel_rfl
  i153 := by kernel_rfl
  i154 := by kernel_rfl
  i155 := by kernel_rfl
  i156 := by kernel_rfl
  i169 := by kernel_rfl
  i170 := by kernel_rfl
  i171 := by kernel_rfl
  i172 := by kernel_rfl
  i173 := by kernel_rfl
  i174 := by kernel_rfl
  i184 := by kernel_rfl
  i185 := by kernel_rfl
  i186 := by kernel_rfl

set_option maxRecDepth 100000 in
theorem abstractFields_lifted (os : Os) (started : os.Started) (H : Type) (enc : TypeId × Value → H) (F : Stop.Interp) :
    ReturnsInHanded {} Try.checked os 15 .any ((Rows.OpenSpec.upto Rows.abstractFieldsSpec).pre6 enc Try.prog Try.f15 Rows.abstractFieldsUptoRow.domain false) (((Rows.OpenSpec.upto Rows.abstractFieldsSpec).at F).post enc Try.prog Try.f15 false true false false) := by
  refine returnsInHanded_of_cond_sized (C := Try.checked) (s := Rows.OpenSpec.upto Rows.abstractFieldsSpec) (k := Rows.uptoSmall) rfl Try.own started (by kernel_rfl) Try.func15
    (OpenSpec.witness (enc := enc) (C := Try.checked) (s := Rows.OpenSpec.upto Rows.abstractFieldsSpec) (k := Rows.uptoSmall) rfl false ⟨#[], #[.agg #[.slice none 0 0]], []⟩ 8 (by kernel_rfl) (by kernel_rfl) (by kernel_rfl)
      (x := ([.agg [.nil]], [], [])) (by kernel_rfl) rfl (by kernel_rfl)) ?_
  intro W base args ds gs before hval hW _ hk hwt _
  have hk1 : Rows.uptoBulkAll (ds ++ gs) ≤ 1048576 := of_decide_eq_true hk
  rw [Try.bulkAll, List.map_append, List.sum_append] at hk1
  refine Go.GB.law_okB (N := 1048576) Try.bulk (s := Rows.abstractFieldsSpec) [3, 4, 9, 22, 23, 24, 26, 27, 29, 32, 34, 94, 96, 104, 105, 106, 108, 112, 116, 148, 150] (by kernel_rfl) Try.laidOut (by kernel_rfl) (by kernel_rfl) Try.underlying4 rfl (fun ds h => ?_) W base args ds gs before hval hW hwt (by omega) (fun vs h hb => ?_)
  · have h : ds.length = 1 := h.trans (by kernel_rfl)
    obtain ⟨a, rfl⟩ := Go.GB.len1 h; rfl
  · rw [Try.params15] at h
    have g0 := h; clear h
    obtain ⟨xs1, r, rfl, k1, g1⟩ := g0.cons_inv (m := 14) (sh := Go.GB.docSh) Try.sp (by kernel_rfl)
    obtain ⟨d1, rfl, j1⟩ := Go.GB.doc_sh0 k1
    obtain rfl := g1.nil_inv
    rw [Go.GB.argV_agg (by kernel_rfl)] at hb ⊢
    exact Go.GB.C11.abstractFields_ok Try.pr d1 j1 (by simp [Go.GB.vb, Go.GB.vbs, Go.GB.T.bulk] at hb; omega)
set_option maxRecDepth 100000 in
set_option maxHeartbeats 4000000 in
theorem abstractFields_closed : joinedFacts Try.prog 15 Try.f15 (Rows.OpenSpec.upto Rows.abstractFieldsSpec).bare Rows.abstractFieldsUptoRow = true := by
  unfold joinedFacts
  repeat' (with_reducible refine andT ?_ ?_)
  all_goals as_aux_lemma => kernel_rfl
theorem abstractFields_holds : Rows.AbstractFieldsUptoSaid :=
  OpenClaim.holds_of_cond 15 Try.f15 rfl rfl rfl rfl rfl rfl rfl ⟨rfl, rfl, rfl, rfl, rfl⟩ rfl rfl rfl rfl rfl (by kernel_rfl) Try.func15 abstractFields_closed
    (of_decide_eq_true (by kernel_rfl)) (by unfold Func.isWrapper; first | (rw [if_pos (by decide +kernel)]; kernel_rfl) | (rw [if_neg (by decide +kernel)]; exact ⟨rfl, rfl⟩))
    (fun os started H enc _ F => abstractFields_lifted os started H enc F)

end Go.Proofs.Ytkhekeacdnhkpaa