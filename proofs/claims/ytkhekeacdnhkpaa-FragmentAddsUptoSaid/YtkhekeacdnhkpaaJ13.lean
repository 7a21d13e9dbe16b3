/-
  YtkhekeacdnhkpaaJoin: a law of this seat returns true for every input of bulk at most 1048576, each argument reads as it read.
-/
import Derived.Test.YtkhekeacdnhkpaaRows
import Derived.Test.YtkhekeacdnhkpaaP8
import Derived.WalkKit
import Derived.ProofKit
import Derived.OpenShut
namespace Go.Proofs.Ytkhekeacdnhkpaa
open Go.ChangeShapes Go.WideShapes Go.ChangeAt Go.RowKit
set_option linter.unusedVariables false
set_option linter.unusedSimpArgs false

theorem Try.own : ownKnob Try.prog.godebug = none := by kernel_rfl
theorem Try.laidOut : laidOutB Try.prog = true := by kernel_rfl
theorem andT {a b : Bool} (h : a = true) (k : b = true) : (a && b) = true := by rw [h, k]; rfl
theorem Try.bulkAll {H : Type} : ∀ l : List (DataW H), Rows.uptoBulkAll l = (l.map Rows.uptoBulk).sum
  | [] => by simp [Rows.uptoBulkAll]
  | x :: r => by simp only [Rows.uptoBulkAll, List.map_cons, List.sum_cons, Try.bulkAll r]
theorem Try.bulk {H : Type} : Go.GB.Bulk (H := H) Rows.uptoBulk where
  lit := fun l => by cases l <;> simp [Rows.uptoBulk]
  str := fun bs => by simp [Rows.uptoBulk]
  nil := by simp [Rows.uptoBulk]
  slice := fun e s => by simp only [Rows.uptoBulk, Try.bulkAll]; omega
  agg := fun ps => by simp only [Rows.uptoBulk, Try.bulkAll]; omega

theorem Try.sp : ∀ e i n xs, Go.GB.spS 26 58 e = some i → xs.length * Try.prog.bytesOf e ≤ reachBytes → xs.length ≤ maxLen → (∀ c ∈ xs, Go.GB.WT Try.prog n e c) → Go.GB.YS i (.lst xs) :=
  Go.GB.spS_ok (by kernel_rfl) (by kernel_rfl) (by kernel_rfl) (by kernel_rfl)

theorem Try.pr : Go.GB.C11.Pr Try.prog where
  mixed := by kernel_rfl
  i29 := by kernel_rfl
  i40 := by kernel_rfl
  i46 := by kernel_rfl
  i47 := by kernel_rfl
  i48 := by kernel_rfl
  i49 := by kernel_rfl
  i51 := by kernel_rfl
  i53 := by kernel_rfl
  i55 := by kernel_rfl
  i57 := by kernel_rfl
  i58 := by kernel_rfl
  i68 := by kernel_rfl
  i85 := by kernel_rfl
  i87 := by kernel_rfl
  i88 := by kernel_rfl
  i89 := by kernel_rfl
  i90 := by kernel_rfl
  i91 := by kernel_rfl
  i92 := by kernel_rfl
  i93 := by kernel_rfl
  i94 := by kernel_rfl
  i98 := by kernel_rfl
  i99 := by kernel_rfl
  i100 := by kernel_rfl
  i102 := by kernel_rfl
  i103 := by kernel_rfl
  i104 := by kernel_rfl
  i105 := by kernel_rfl
  i126 := by kernel_rfl
  i134 := by kernel_rfl
  i136 := by kernel_rfl
  i140 := by kernel_rfl
  i141 := by kernel_rfl
  i142 := by kernel_rfl
  i145 := by kernel_rfl
  i146 := by kernel_rfl
  i147 := by kernel_rfl
  i149 := by kernel_rfl
  i150 := by kernel_rfl
  i151 := by kernel_rfl
  i152 := by kernel_rfl
  i153 := by kernel_rfl
  i154 := by kernel_rfl
  i169 := by kernel_rfl
  i170 := by kernel_rfl
  i171 := by kernel_rfl
  i172 := by kernel_rfl
  i184 := by kernel_rfl
  i185 := by kernel_rfl

theorem Try.pr13 : Go.GB.C11.Pr13 Try.prog where
  toPr := Try.pr
  i11 := by kernel_rfl
  i32 := by kernel_rfl
  i33 := by kernel_rfl
  i34 := by kernel_rfl
  i35 := by kernel_rfl
  i37 := by kernel_rfl
  i38 := by kernel_rfl
  i39 := by kernel_rfl
  i41 := by kernel_rfl
  i43 := by kernel_rfl
  i69 := by kernel_rfl
  i70 := by kernel_rfl
  i71 := by kernel_rfl
  i72 := by kernel_rfl
  i73 := by kernel_rfl
  i74 := by kernel_rfl
  i75 := by kernel_rfl
  i76 := by kernel_rfl
  i77 := by kernel_rfl
  i78 := by kernel_rfl
  i79 := by kernel_rfl
  i80 := by kernel_rfl
  i127 := by kernel_rfl
  i128 := by kernel_rfl
  i129 := by kernel_rfl
  i130 := by kernel_rfl
  i131 := by kernel_rfl
  i132 := by kernel_rfl
  i133 := by kernel_rfl
  i135 := by kernel_rfl
  i159 := by kernel_rfl
  i164 := by kernel_rfl
  i165 := by kernel_rfl
  i166 := by kernel_rfl
  i167 := by kernel_rfl
  i168 := by kernel_rfl
  i179 := by kernel_rfl
  i180 := by kernel_rfl
  i181 := by kernel_rfl
  i182 := by kernel_rfl
  i183 := by kernel_rfl
  i190 := by kernel_rfl
  i191 := by kernel_rfl
set_option maxRecDepth 100000 in
theorem fragmentAdds_lifted (os : Os) (started : os.Started) (H : Type) (enc : TypeId × Value → H) (F : Stop.Interp) :
    ReturnsInHanded {} Try.checked os 11 .any ((Rows.OpenSpec.upto Rows.fragmentAddsSpec).pre6 enc Try.prog Try.f11 Rows.fragmentAddsUptoRow.domain false) (((Rows.OpenSpec.upto Rows.fragmentAddsSpec).at F).post enc Try.prog Try.f11 false true false false) := by
  refine returnsInHanded_of_cond_sized (C := Try.checked) (s := Rows.OpenSpec.upto Rows.fragmentAddsSpec) (k := Rows.uptoSmall) rfl Try.own started (by kernel_rfl) Try.func11
    (OpenSpec.witness (enc := enc) (C := Try.checked) (s := Rows.OpenSpec.upto Rows.fragmentAddsSpec) (k := Rows.uptoSmall) rfl false ⟨#[], #[.agg #[.slice none 0 0], .agg #[.slice none 0 0, .slice none 0 0], .string .empty], []⟩ 8 (by kernel_rfl) (by kernel_rfl) (by kernel_rfl)
      (x := ([.agg [.nil], .agg [.nil, .nil], .lit (.string [])], [], [])) (by kernel_rfl) rfl (by kernel_rfl)) ?_
  intro W base args ds gs before hval hW _ hk hwt _
  have hk1 : Rows.uptoBulkAll (ds ++ gs) ≤ 1048576 := of_decide_eq_true hk
  rw [Try.bulkAll, List.map_append, List.sum_append] at hk1
  refine Go.GB.law_okB (N := 1048576) Try.bulk (s := Rows.fragmentAddsSpec) [3, 4, 9, 22, 23, 24, 26, 27, 29, 32, 34, 35, 36, 38, 56, 58, 74, 76, 79, 94, 96, 104, 105, 106, 108, 112, 116, 148, 150, 207] (by kernel_rfl) Try.laidOut (by kernel_rfl) (by kernel_rfl) Try.underlying4 rfl (fun ds h => ?_) W base args ds gs before hval hW hwt (by omega) (fun vs h hb => ?_)
  · have h : ds.length = 3 := h.trans (by kernel_rfl)
    obtain ⟨a, b, c, rfl⟩ := Go.GB.len3 h; rfl
  · rw [Try.params11] at h
    have g0 := h; clear h
    obtain ⟨xs1, r, rfl, k1, g1⟩ := g0.cons_inv (m := 14) (sh := Go.GB.docSh) Try.sp (by kernel_rfl)
    obtain ⟨d1, rfl, j1⟩ := Go.GB.docS_sh0 k1
    obtain ⟨xs2, r, rfl, k2, g2⟩ := g1.cons_inv (m := 14) (sh := Go.GB.querySh) Try.sp (by kernel_rfl)
    obtain ⟨q2, rfl, j2⟩ := Go.GB.query_sh0 k2
    obtain ⟨xs3, r, rfl, k3, g3⟩ := g2.cons_inv (m := 14) (sh := [.str]) Try.sp (by kernel_rfl)
    obtain ⟨s3, rfl, j3⟩ := Go.GB.strS_sh0 k3
    obtain rfl := g3.nil_inv
    rw [Go.GB.argV_agg (by kernel_rfl), Go.GB.argV_agg (by kernel_rfl), Go.GB.argV_one (by kernel_rfl)] at hb ⊢
    exact Go.GB.C11.fragmentAdds_ok Try.pr13 d1 j1 q2 j2 s3 j3 ⟨by simp [Go.GB.vb, Go.GB.vbs, Go.GB.T.bulk] at hb; omega, by have := Go.GB.C11.ops_bulk q2.ops; have := Go.GB.C11.frags_bulk q2.frags; simp [Go.GB.vb, Go.GB.vbs, Go.GB.T.bulk] at hb; omega⟩
set_option maxRecDepth 100000 in
set_option maxHeartbeats 4000000 in
theorem fragmentAdds_closed : joinedFacts Try.prog 11 Try.f11 (Rows.OpenSpec.upto Rows.fragmentAddsSpec).bare Rows.fragmentAddsUptoRow = true := by
  unfold joinedFacts
  repeat' (with_reducible refine andT ?_ ?_)
  all_goals as_aux_lemma => kernel_rfl
theorem fragmentAdds_holds : Rows.FragmentAddsUptoSaid :=
  OpenClaim.holds_of_cond 11 Try.f11 rfl rfl rfl rfl rfl rfl rfl ⟨rfl, rfl, rfl, rfl, rfl⟩ rfl rfl rfl rfl rfl (by kernel_rfl) Try.func11 fragmentAdds_closed
    (of_decide_eq_true (by kernel_rfl)) (by unfold Func.isWrapper; first | (rw [if_pos (by decide +kernel)]; kernel_rfl) | (rw [if_neg (by decide +kernel)]; exact ⟨rfl, rfl⟩))
    (fun os started H enc _ F => fragmentAdds_lifted os started H enc F)

end Go.Proofs.Ytkhekeacdnhkpaa
