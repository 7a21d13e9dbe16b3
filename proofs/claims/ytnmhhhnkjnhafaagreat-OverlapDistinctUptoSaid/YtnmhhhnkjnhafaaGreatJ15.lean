/-
  YtnmhhhnkjnhafaaGreatJoin: a law of this seat returns true for every input of bulk at most 1048576, each argument reads as it read.
-/
import Derived.Test.YtnmhhhnkjnhafaaGreatRows
import Derived.Test.YtnmhhhnkjnhafaaGreatP6
import Derived.Test.YtnmhhhnkjnhafaaGreatP5
import Derived.WalkKit
import Derived.ProofKit
import Derived.OpenShut
namespace Go.Proofs.YtnmhhhnkjnhafaaGreat
open Go.ChangeShapes Go.WideShapes Go.ChangeAt Go.RowKit
set_option linter.unusedVariables false
set_option linter.unusedSimpArgs false

theorem Tryz.own : ownKnob Tryz.prog.godebug = none := by kernel_rfl
theorem Tryz.laidOut : laidOutB Tryz.prog = true := by kernel_rfl
theorem andT {a b : Bool} (h : a = true) (k : b = true) : (a && b) = true := by rw [h, k]; rfl
theorem Tryz.bulkAll {H : Type} : ∀ l : List (DataW H), Rows.uptoBulkAll l = (l.map Rows.uptoBulk).sum
  | [] => by simp [Rows.uptoBulkAll]
  | x :: r => by simp only [Rows.uptoBulkAll, List.map_cons, List.sum_cons, Tryz.bulkAll r]
theorem Tryz.bulk {H : Type} : Go.GB.zaO (H := H) Rows.uptoBulk where
  lit := fun l => by cases l <;> simp [Rows.uptoBulk]
  str := fun bs => by simp [Rows.uptoBulk]
  nil := by simp [Rows.uptoBulk]
  slice := fun e s => by simp only [Rows.uptoBulk, Tryz.bulkAll]; omega
  agg := fun ps => by simp only [Rows.uptoBulk, Tryz.bulkAll]; omega

theorem Tryz.sp : ∀ e i n xs, Go.GB.spS 107 47 e = some i → xs.length * Tryz.prog.bytesOf e ≤ reachBytes → xs.length ≤ maxLen → (∀ c ∈ xs, Go.GB.WT Tryz.prog n e c) → Go.GB.YS i (.lst xs) :=
  Go.GB.zel (by kernel_rfl) (by kernel_rfl) (by kernel_rfl) (by kernel_rfl)

theorem Tryz.pr : Go.GB.C11.Pr Tryz.prog where
  mixed := by kernel_rfl
  i143 := by kernel_rfl
  i141 := by kernel_rfl
  i122 := by kernel_rfl
  i81 := by kernel_rfl
  i120 := by kernel_rfl
  i25 := by kernel_rfl
  i37 := by kernel_rfl
  i38 := by kernel_rfl
  i39 := by kernel_rfl
  i130 := by kernel_rfl
  i154 := by kernel_rfl
  i92 := by kernel_rfl
  i94 := by kernel_rfl
  i45 := by kernel_rfl
  i147 := by kernel_rfl
  i70 := by kernel_rfl
  i139 := by kernel_rfl
  i140 := by kernel_rfl
  i49 := by kernel_rfl
  i50 := by kernel_rfl
  i51 := by kernel_rfl
  i52 := by kernel_rfl
  i131 := by kernel_rfl
  i146 := by kernel_rfl
  i79 := by kernel_rfl
  i80 := by kernel_rfl
  i132 := by kernel_rfl
  i152 := by kernel_rfl
  i153 := by kernel_rfl
  i142 := by kernel_rfl
  i85 := by kernel_rfl
  i86 := by kernel_rfl
  i87 := by kernel_rfl
  i88 := by kernel_rfl
  i89 := by kernel_rfl
  i90 := by kernel_rfl
  i117 := by kernel_rfl
  i118 := by kernel_rfl
  i119 := by kernel_rfl
  i16 := by kernel_rfl
  i134 := by kernel_rfl
  i137 := by kernel_rfl
  i138 := by kernel_rfl
  i133 := by kernel_rfl
theorem Tryz.pr13 : Go.GB.C11.ZU Tryz.prog where
  toPr := Tryz.pr
  i124 := by kernel_rfl
  i95 := by kernel_rfl
  i27 := by kernel_rfl
  i34 := by kernel_rfl
  i99 := by kernel_rfl
  i57 := by kernel_rfl
  i24 := by kernel_rfl
  i26 := by kernel_rfl
  i31 := by kernel_rfl
  i127 := by kernel_rfl
  i55 := by kernel_rfl
  i56 := by kernel_rfl
  i19 := by kernel_rfl
  i58 := by kernel_rfl
  i100 := by kernel_rfl
  i46 := by kernel_rfl
  i47 := by kernel_rfl
  i48 := by kernel_rfl
  i53 := by kernel_rfl
  i54 := by kernel_rfl
  i145 := by kernel_rfl
  i96 := by kernel_rfl
  i97 := by kernel_rfl
  i98 := by kernel_rfl
  i78 := by kernel_rfl
  i82 := by kernel_rfl
  i83 := by kernel_rfl
  i84 := by kernel_rfl
  i91 := by kernel_rfl
  i93 := by kernel_rfl
  i113 := by kernel_rfl
  i114 := by kernel_rfl
  i115 := by kernel_rfl
  i116 := by kernel_rfl
  i121 := by kernel_rfl
  i136 := by kernel_rfl
  i151 := by kernel_rfl
theorem Tryz.prR : Go.GB.C29.PrR Tryz.prog where
  mixed := by kernel_rfl
  i22 := by kernel_rfl
  i43 := by kernel_rfl
  i74 := by kernel_rfl
  i75 := by kernel_rfl
  i76 := by kernel_rfl
  i77 := by kernel_rfl
  i111 := by kernel_rfl
  i112 := by kernel_rfl
theorem Tryz.prW : Go.GB.C29.PrW Tryz.prog where
  mixed := by kernel_rfl
  i40 := by kernel_rfl
  i72 := by kernel_rfl
theorem Tryz.pr43 : Go.GB.C43.Pr Tryz.prog where
  mixed := by kernel_rfl
  i21 := by kernel_rfl
  i41 := by kernel_rfl
  i42 := by kernel_rfl
  i73 := by kernel_rfl
theorem Tryz.pr18 : Go.GB.C18.z5b Tryz.prog where
  mixed := by kernel_rfl
  i23 := by kernel_rfl
  i44 := by kernel_rfl
  i78 := by kernel_rfl
theorem Tryz.pr15 : Go.GB.C15.yx Tryz.prog where
  p13 := Tryz.pr13
  pR := Tryz.prR
  pW := Tryz.prW
  p43 := Tryz.pr43
  p18 := Tryz.pr18
  mixed := by kernel_rfl
  i5 := by kernel_rfl
  i7 := by kernel_rfl
  i8 := by kernel_rfl
  i11 := by kernel_rfl
  i14 := by kernel_rfl
  i18 := by kernel_rfl
  i29 := by kernel_rfl
  i30 := by kernel_rfl
  i33 := by kernel_rfl
  i62 := by kernel_rfl
  i63 := by kernel_rfl
  i64 := by kernel_rfl
  i65 := by kernel_rfl
  i66 := by kernel_rfl
  i67 := by kernel_rfl
  i69 := by kernel_rfl
  i102 := by kernel_rfl
  i103 := by kernel_rfl
  i107 := by kernel_rfl
  i108 := by kernel_rfl
  i110 := by kernel_rfl
  i125 := by kernel_rfl
  i128 := by kernel_rfl
  i129 := by kernel_rfl
  i135 := by kernel_rfl
set_option maxRecDepth 100000 in
theorem overlapDistinct_lifted (os : Os) (started : os.Started) (H : Type) (enc : TypeId × Value → H) (F : Stop.Interp) :
    ReturnsInHanded {} Tryz.checked os 5 .any ((Rows.OpenSpec.upto Rows.overlapDistinctSpec).pre6 enc Tryz.prog Tryz.f5 Rows.overlapDistinctUptoRow.domain false) (((Rows.OpenSpec.upto Rows.overlapDistinctSpec).at F).post enc Tryz.prog Tryz.f5 false true false false) := by
  refine returnsInHanded_of_cond_sized (C := Tryz.checked) (s := Rows.OpenSpec.upto Rows.overlapDistinctSpec) (k := Rows.uptoSmall) rfl Tryz.own started (by kernel_rfl) Tryz.func5
    (OpenSpec.witness (enc := enc) (C := Tryz.checked) (s := Rows.OpenSpec.upto Rows.overlapDistinctSpec) (k := Rows.uptoSmall) rfl false ⟨#[], #[.agg #[.slice none 0 0], .agg #[.slice none 0 0, .slice none 0 0]], []⟩ 8 (by kernel_rfl) (by kernel_rfl) (by kernel_rfl)
      (x := ([.agg [.nil], .agg [.nil, .nil]], [], [])) (by kernel_rfl) rfl (by kernel_rfl)) ?_
  intro W base args ds gs before hval hW _ hk hwt _
  have hk1 : Rows.uptoBulkAll (ds ++ gs) ≤ 1048576 := of_decide_eq_true hk
  rw [Tryz.bulkAll, List.map_append, List.sum_append] at hk1
  refine Go.GB.ze7 (N := 1048576) Tryz.bulk (s := Rows.overlapDistinctSpec) [3, 4, 9, 22, 24, 25, 26, 28, 38, 39, 44, 45, 47, 49, 51, 57, 59, 63, 74, 76, 77, 78, 80, 105, 107, 109, 113, 145, 148, 156] (by kernel_rfl) Tryz.laidOut (by kernel_rfl) (by kernel_rfl) Tryz.underlying4 rfl (fun ds h => ?_) W base args ds gs before hval hW hwt (by omega) (fun vs h hb => ?_)
  · have h : ds.length = 2 := h.trans (by kernel_rfl)
    obtain ⟨a, b, rfl⟩ := Go.GB.zeo h; rfl
  · rw [Tryz.params5] at h
    have g0 := h; clear h
    obtain ⟨xs1, r, rfl, k1, g1⟩ := g0.cons_inv (m := 18) (sh := Go.GB.z96) Tryz.sp (by kernel_rfl)
    obtain ⟨d1, rfl, j1⟩ := Go.GB.zdG k1
    obtain ⟨xs2, r, rfl, k2, g2⟩ := g1.cons_inv (m := 18) (sh := Go.GB.z7w) Tryz.sp (by kernel_rfl)
    obtain ⟨q2, rfl, j2⟩ := Go.GB.zdq k2
    obtain rfl := g2.ze8
    rw [Go.GB.ze4 (by kernel_rfl), Go.GB.ze4 (by kernel_rfl)] at hb ⊢
    exact Go.GB.C15.zen Tryz.pr15 d1 j1 q2 j2 (by have := Go.GB.C11.z9H q2.ops; have := Go.GB.C11.z5I q2.z8; simp [Go.GB.vb, Go.GB.vbs, Go.GB.T.bulk] at hb; omega) (by have := Go.GB.C15.zbC q2.ops; simp [Go.GB.vb, Go.GB.vbs, Go.GB.T.bulk] at hb; omega)
set_option maxRecDepth 100000 in
set_option maxHeartbeats 4000000 in
theorem overlapDistinct_closed : joinedFacts Tryz.prog 5 Tryz.f5 (Rows.OpenSpec.upto Rows.overlapDistinctSpec).bare Rows.overlapDistinctUptoRow = true := by
  unfold joinedFacts
  repeat' (with_reducible refine andT ?_ ?_)
  all_goals as_aux_lemma => kernel_rfl
theorem overlapDistinct_holds : Rows.OverlapDistinctUptoSaid :=
  OpenClaim.holds_of_cond 5 Tryz.f5 rfl rfl rfl rfl rfl rfl rfl ⟨rfl, rfl, rfl, rfl, rfl⟩ rfl rfl rfl rfl rfl (by kernel_rfl) Tryz.func5 overlapDistinct_closed
    (of_decide_eq_true (by kernel_rfl)) (by unfold Func.isWrapper; first | (rw [if_pos (by decide +kernel)]; kernel_rfl) | (rw [if_neg (by decide +kernel)]; exact ⟨rfl, rfl⟩))
    (fun os started H enc _ F => overlapDistinct_lifted os started H enc F)

end Go.Proofs.YtnmhhhnkjnhafaaGreat