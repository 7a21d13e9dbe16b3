/-
  YtachaigkgjadpaaJoin: a law of this seat returns true for every input of bulk at most 1048576, each argument reads as it read.
-/
import Derived.Test.YtachaigkgjadpaaRows
import Derived.Test.YtachaigkgjadpaaP7
import Derived.Test.YtachaigkgjadpaaP5
import Derived.WalkKit
import Derived.ProofKit
import Derived.OpenShut
namespace Go.Proofs.Ytachaigkgjadpaa
open Go.ChangeShapes Go.WideShapes Go.ChangeAt Go.RowKit
set_option linter.unusedVariables false
set_option linter.unusedSimpArgs false

theorem Try.own : ownKnob Try.prog.godebug = none := by kernel_rfl
theorem Try.laidOut : laidOutB Try.prog = true := by kernel_rfl
theorem andT {a b : Bool} (h : a = true) (k : b = true) : (a && b) = true := by rw [h, k]; rfl
theorem Try.bulkAll {H : Type} : ∀ l : List (DataW H), Rows.uptoBulkAll l = (l.map Rows.uptoBulk).sum
  | [] => by simp [Rows.uptoBulkAll]
  | x :: r => by simp only [Rows.uptoBulkAll, List.map_cons, List.sum_cons, Try.bulkAll r]
theorem Try.bulk {H : Type} : Go.GB.Bulk (H := H) Rows.uptoBulk where
  lit := fun l => by cases l <;> simp [Rows.uptoBulk]
  str := fun bs => by simp [Rows.uptoBulk]
  nil := by simp [Rows.uptoBulk]
  slice := fun e s => by simp only [Rows.uptoBulk, Try.bulkAll]; omega
  agg := fun ps => by simp only [Rows.uptoBulk, Try.bulkAll]; omega

theorem Try.sp : ∀ e i n xs, Go.GB.spS 26 58 e = some i → xs.length * Try.prog.bytesOf e ≤ reachBytes → xs.length ≤ maxLen → (∀ c ∈ xs, Go.GB.WT Try.prog n e c) → Go.GB.YS i (.lst xs) :=
  Go.GB.spS_ok (by kernel_rfl) (by kernel_rfl) (by kernel_rfl) (by kernel_rfl)

theorem Try.pr : Go.GB.C11.Pr Try.prog where
  mixed := by kernel_rfl
  i21 := by kernel_rfl
  i23 := by kernel_rfl
  i34 := by kernel_rfl
  i33 := by kernel_rfl
  i54 := by kernel_rfl
  i55 := by kernel_rfl
  i53 := by kernel_rfl
theorem Try.pr13 : Go.GB.C11.Pr13 Try.prog where
  toPr := Try.pr
  i42 := by kernel_rfl
  i58 := by kernel_rfl
theorem Try.pr18 : Go.GB.C18.Pr18 Try.prog where
  toPr13 := Try.pr13
  i3 := by kernel_rfl
  i4 := by kernel_rfl
  i6 := by kernel_rfl
  i8 := by kernel_rfl
  i9 := by kernel_rfl
  i11 := by kernel_rfl
  i12 := by kernel_rfl
  i13 := by kernel_rfl
  i17 := by kernel_rfl
  i19 := by kernel_rfl
  i20 := by kernel_rfl
  i22 := by kernel_rfl
  i24 := by kernel_rfl
  i25 := by kernel_rfl
  i27 := by kernel_rfl
  i28 := by kernel_rfl
  i31 := by kernel_rfl
  i32 := by kernel_rfl
  i35 := by kernel_rfl
  i36 := by kernel_rfl
  i39 := by kernel_rfl
  i40 := by kernel_rfl
  i41 := by kernel_rfl
  i43 := by kernel_rfl
  i52 := by kernel_rfl
  i56 := by kernel_rfl
  i59 := by kernel_rfl
  i60 := by kernel_rfl
  i64 := by kernel_rfl
  i65 := by kernel_rfl
  i66 := by kernel_rfl

set_option maxRecDepth 100000 in
theorem collectLists_lifted (os : Os) (started : os.Started) (H : Type) (enc : TypeId × Value → H) (F : Stop.Interp) :
    ReturnsInHanded {} Try.checked os 6 .any ((Rows.OpenSpec.upto Rows.collectListsSpec).pre6 enc Try.prog Try.f6 Rows.collectListsUptoRow.domain false) (((Rows.OpenSpec.upto Rows.collectListsSpec).at F).post enc Try.prog Try.f6 false true false false) := by
  refine returnsInHanded_of_cond_sized (C := Try.checked) (s := Rows.OpenSpec.upto Rows.collectListsSpec) (k := Rows.uptoSmall) rfl Try.own started (by kernel_rfl) Try.func6
    (OpenSpec.witness (enc := enc) (C := Try.checked) (s := Rows.OpenSpec.upto Rows.collectListsSpec) (k := Rows.uptoSmall) rfl false ⟨#[], #[.agg #[.slice none 0 0, .slice none 0 0, .slice none 0 0, .string .empty, .slice none 0 0], .int .i64 0, .agg #[.int .i64 0, .int .i64 0, .string .empty, .slice none 0 0, .slice none 0 0]], []⟩ 8 (by kernel_rfl) (by kernel_rfl) (by kernel_rfl)
      (x := ([.agg [.agg [.nil], .agg [.nil, .nil], .lit (.string []), .nil], .lit (.int .i64 0), .agg [.lit (.int .i64 0), .lit (.int .i64 0), .lit (.string []), .nil, .nil]], [], [])) (by kernel_rfl) rfl (by kernel_rfl)) ?_
  intro W base args ds gs before hval hW _ hk hwt _
  have hk1 : Rows.uptoBulkAll (ds ++ gs) ≤ 1048576 := of_decide_eq_true hk
  rw [Try.bulkAll, List.map_append, List.sum_append] at hk1
  refine Go.GB.law_okB (N := 1048576) Try.bulk (s := Rows.collectListsSpec) [3, 4, 9, 22, 23, 24, 26, 27, 29, 32, 34, 35, 36, 38, 39, 41, 56, 58, 61, 71, 72, 73, 75, 77, 81, 83, 97, 99, 101, 108, 127, 158, 160] (by kernel_rfl) Try.laidOut (by kernel_rfl) (by kernel_rfl) Try.underlying4 rfl (fun ds h => ?_) W base args ds gs before hval hW hwt (by omega) (fun vs h hb => ?_)
  · have h : ds.length = 3 := h.trans (by kernel_rfl)
    obtain ⟨a, b, c, rfl⟩ := Go.GB.len3 h; rfl
  · rw [Try.params6] at h
    have g0 := h; clear h
    obtain ⟨xs1, r, rfl, k1, g1⟩ := g0.cons_inv (m := 18) (sh := Go.GB.C18.caseSh) Try.sp (by kernel_rfl)
    obtain ⟨d1, q1, o1, l1, rfl, ⟨j1, i1⟩, m1, p1⟩ := Go.GB.C18.case_sh0 k1
    obtain ⟨xs2, r, rfl, k2, g2⟩ := g1.cons_inv (m := 18) (sh := [.int .i64]) Try.sp (by kernel_rfl)
    obtain ⟨n2, rfl, j2⟩ := Go.GB.C18.intS_sh0 k2
    obtain ⟨xs3, r, rfl, k3, g3⟩ := g2.cons_inv (m := 18) (sh := Go.GB.valSh) Try.sp (by kernel_rfl)
    obtain ⟨v3, rfl, j3⟩ := Go.GB.C18.valS_sh0 k3
    obtain rfl := g3.nil_inv
    rw [Go.GB.argV_agg (by kernel_rfl), Go.GB.argV_one (by kernel_rfl), Go.GB.argV_agg (by kernel_rfl)] at hb ⊢
    exact Go.GB.C18.law_lists Try.pr18 d1 j1 q1 i1 o1 n2 j2 v3 j3 l1 m1 p1 (by simp [Go.GB.vb, Go.GB.vbs, Go.GB.T.bulk] at hb; omega)
set_option maxRecDepth 100000 in
set_option maxHeartbeats 4000000 in
theorem collectLists_closed : joinedFacts Try.prog 6 Try.f6 (Rows.OpenSpec.upto Rows.collectListsSpec).bare Rows.collectListsUptoRow = true := by
  unfold joinedFacts
  repeat' (with_reducible refine andT ?_ ?_)
  all_goals as_aux_lemma => kernel_rfl
theorem collectLists_holds : Rows.CollectListsUptoSaid :=
  OpenClaim.holds_of_cond 6 Try.f6 rfl rfl rfl rfl rfl rfl rfl ⟨rfl, rfl, rfl, rfl, rfl⟩ rfl rfl rfl rfl rfl (by kernel_rfl) Try.func6 collectLists_closed
    (of_decide_eq_true (by kernel_rfl)) (by unfold Func.isWrapper; first | (rw [if_pos (by decide +kernel)]; kernel_rfl) | (rw [if_neg (by decide +kernel)]; exact ⟨rfl, rfl⟩))
    (fun os started H enc _ F => collectLists_lifted os started H enc F)

end Go.Proofs.Ytachaigkgjadpaa
