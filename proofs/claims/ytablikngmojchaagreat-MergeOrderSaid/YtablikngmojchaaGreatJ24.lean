/-
  YtablikngmojchaaGreatJoin: the laws of this seat return true for every input, each argument reads as it read. No conditions.
-/
import Derived.Test.YtablikngmojchaaGreatRows
import Derived.Test.YtablikngmojchaaGreatP7
import Derived.Test.YtablikngmojchaaGreatP8
import Derived.Test.YtablikngmojchaaGreatP5
import Derived.WalkKit
import Derived.ProofKit
import Derived.OpenShut
namespace Go.Proofs.YtablikngmojchaaGreat
open Go.ChangeShapes Go.WideShapes Go.ChangeAt Go.RowKit
set_option linter.unusedVariables false
set_option linter.unusedSimpArgs false

theorem Tryz.own : ownKnob Tryz.prog.godebug = none := by kernel_rfl
theorem Tryz.laidOut : laidOutB Tryz.prog = true := by kernel_rfl
theorem andT {a b : Bool} (h : a = true) (k : b = true) : (a && b) = true := by rw [h, k]; rfl

theorem Tryz.sp : ∀ e i n xs, Go.GB.spV 98 e = some i → xs.length * Tryz.prog.bytesOf e ≤ reachBytes → xs.length ≤ maxLen → (∀ c ∈ xs, Go.GB.WT Tryz.prog n e c) → Go.GB.YA i (.lst xs) :=
  Go.GB.C24.zhy (by kernel_rfl) (by kernel_rfl)

theorem Tryz.pr : Go.GB.C11.Pr Tryz.prog where
  mixed := by kernel_rfl
  i22 := by kernel_rfl
  i18 := by kernel_rfl
  i51 := by kernel_rfl
  i70 := by kernel_rfl
  i105 := by kernel_rfl
  i176 := by kernel_rfl
  i153 := by kernel_rfl
  i159 := by kernel_rfl
  i24 := by kernel_rfl
  i12 := by kernel_rfl
  i13 := by kernel_rfl
  i36 := by kernel_rfl
  i111 := by kernel_rfl
  i28 := by kernel_rfl
  i125 := by kernel_rfl
  i148 := by kernel_rfl
  i118 := by kernel_rfl
  i120 := by kernel_rfl
  i128 := by kernel_rfl
  i106 := by kernel_rfl
  i76 := by kernel_rfl
  i136 := by kernel_rfl
  i77 := by kernel_rfl
  i99 := by kernel_rfl
  i146 := by kernel_rfl
  i97 := by kernel_rfl
  i62 := by kernel_rfl
  i63 := by kernel_rfl
  i64 := by kernel_rfl
  i65 := by kernel_rfl
  i132 := by kernel_rfl
  i84 := by kernel_rfl
  i85 := by kernel_rfl
  i163 := by kernel_rfl
  i149 := by kernel_rfl
  i150 := by kernel_rfl
  i79 := by kernel_rfl
  i135 := by kernel_rfl
  i145 := by kernel_rfl
  i144 := by kernel_rfl
  i102 := by kernel_rfl
  i112 := by kernel_rfl
  i113 := by kernel_rfl
  i114 := by kernel_rfl
  i115 := by kernel_rfl
  i60 := by kernel_rfl
  i116 := by kernel_rfl
  i165 := by kernel_rfl
  i155 := by kernel_rfl
  i156 := by kernel_rfl
  i157 := by kernel_rfl
  i158 := by kernel_rfl
  i88 := by kernel_rfl
  i32 := by kernel_rfl
  i174 := by kernel_rfl
  i175 := by kernel_rfl
  i78 := by kernel_rfl
theorem Tryz.pr13 : Go.GB.C11.z0h Tryz.prog where
  toPr := Tryz.pr
  i25 := by kernel_rfl
  i66 := by kernel_rfl
  i67 := by kernel_rfl
  i171 := by kernel_rfl
  i151 := by kernel_rfl
  i117 := by kernel_rfl
  i119 := by kernel_rfl
  i172 := by kernel_rfl
  i173 := by kernel_rfl
  i53 := by kernel_rfl
  i184 := by kernel_rfl
  i187 := by kernel_rfl
theorem Tryz.prR : Go.GB.C29.PrR Tryz.prog where
  mixed := by kernel_rfl
  i23 := by kernel_rfl
  i61 := by kernel_rfl
  i107 := by kernel_rfl
  i108 := by kernel_rfl
  i109 := by kernel_rfl
  i110 := by kernel_rfl
  i152 := by kernel_rfl
  i154 := by kernel_rfl
theorem Tryz.pr35 : Go.GB.C35.Pr Tryz.prog where
  mixed := by kernel_rfl
  i171 := by kernel_rfl
  i141 := by kernel_rfl
  i140 := by kernel_rfl
  i80 := by kernel_rfl
  i170 := by kernel_rfl
  i169 := by kernel_rfl
  i137 := by kernel_rfl
  i33 := by kernel_rfl
  i181 := by kernel_rfl
  i182 := by kernel_rfl
  i183 := by kernel_rfl
  i178 := by kernel_rfl
  i179 := by kernel_rfl
  i180 := by kernel_rfl
  i185 := by kernel_rfl
  i186 := by kernel_rfl
theorem Tryz.pr24 : Go.GB.C24.zX Tryz.prog where
  p13 := Tryz.pr13
  p35 := Tryz.pr35
  pR := Tryz.prR
  mixed := by kernel_rfl
  i3 := by kernel_rfl
  i4 := by kernel_rfl
  i7 := by kernel_rfl
  i8 := by kernel_rfl
  i9 := by kernel_rfl
  i10 := by kernel_rfl
  i11 := by kernel_rfl
  i14 := by kernel_rfl
  i16 := by kernel_rfl
  i19 := by kernel_rfl
  i21 := by kernel_rfl
  i26 := by kernel_rfl
  i27 := by kernel_rfl
  i29 := by kernel_rfl
  i30 := by kernel_rfl
  i31 := by kernel_rfl
  i34 := by kernel_rfl
  i35 := by kernel_rfl
  i37 := by kernel_rfl
  i38 := by kernel_rfl
  i39 := by kernel_rfl
  i40 := by kernel_rfl
  i52 := by kernel_rfl
  i54 := by kernel_rfl
  i55 := by kernel_rfl
  i68 := by kernel_rfl
  i69 := by kernel_rfl
  i71 := by kernel_rfl
  i72 := by kernel_rfl
  i73 := by kernel_rfl
  i74 := by kernel_rfl
  i75 := by kernel_rfl
  i81 := by kernel_rfl
  i82 := by kernel_rfl
  i83 := by kernel_rfl
  i86 := by kernel_rfl
  i87 := by kernel_rfl
  i89 := by kernel_rfl
  i93 := by kernel_rfl
  i101 := by kernel_rfl
  i121 := by kernel_rfl
  i122 := by kernel_rfl
  i123 := by kernel_rfl
  i124 := by kernel_rfl
  i126 := by kernel_rfl
  i127 := by kernel_rfl
  i128 := by kernel_rfl
  i129 := by kernel_rfl
  i130 := by kernel_rfl
  i131 := by kernel_rfl
  i132 := by kernel_rfl
  i133 := by kernel_rfl
  i134 := by kernel_rfl
  i138 := by kernel_rfl
  i139 := by kernel_rfl
  i160 := by kernel_rfl
  i161 := by kernel_rfl
  i162 := by kernel_rfl
  i163 := by kernel_rfl
  i164 := by kernel_rfl
  i165 := by kernel_rfl
  i166 := by kernel_rfl
  i167 := by kernel_rfl
  i168 := by kernel_rfl
  i177 := by kernel_rfl
set_option maxRecDepth 100000 in
theorem mergeOrder_lifted (os : Os) (started : os.Started) (H : Type) (enc : TypeId × Value → H) :
    ReturnsInHanded {} Tryz.checked os 7 .any (Rows.mergeOrderSpec.pre6 enc Tryz.prog Tryz.f7 Rows.mergeOrderRow.domain false) (Rows.mergeOrderSpec.post enc Tryz.prog Tryz.f7 false true false false) := by
  refine Go.GB.yO (C := Tryz.checked) Tryz.own started (by kernel_rfl) Tryz.func7
    (ChangeSpec.witness6 (enc := enc) (C := Tryz.checked) false ⟨#[], #[.slice none 0 0], []⟩ 8 (by kernel_rfl) (by kernel_rfl) (by kernel_rfl) (by kernel_rfl)) ?_
  intro W base args ds gs before hval hW hwt
  refine Go.GB.zhr [3, 4, 9, 22, 24, 26, 28, 35, 36, 37, 38, 39, 41, 44, 46, 48, 63, 96, 98, 100, 115, 117, 144] (by kernel_rfl) Tryz.laidOut (by kernel_rfl) (by kernel_rfl) Tryz.underlying4 rfl (fun ds h => ?_) W base args ds gs before hval hW hwt (fun vs h => ?_)
  · have h : ds.length = 1 := h.trans (by kernel_rfl)
    obtain ⟨a, rfl⟩ := Go.GB.zhE h; rfl
  · rw [Tryz.params7] at h
    have g0 := h; clear h
    obtain ⟨xs1, r, rfl, k1, g1⟩ := g0.cons_inv (m := 18) (sh := [.lst 40 Go.GB.C24.zap]) Tryz.sp (by kernel_rfl)
    obtain ⟨l1, rfl, j1, m1⟩ := Go.GB.C24.zgb k1
    obtain rfl := g1.zho
    rw [Go.GB.zhi (by kernel_rfl)]
    exact Go.GB.C24.zd1 Tryz.pr24 l1 j1 m1
set_option maxRecDepth 100000 in
set_option maxHeartbeats 4000000 in
theorem mergeOrder_closed : joinedFacts Tryz.prog 7 Tryz.f7 Rows.mergeOrderSpec Rows.mergeOrderRow = true := by
  unfold joinedFacts
  repeat' (with_reducible refine andT ?_ ?_)
  all_goals as_aux_lemma => kernel_rfl
theorem mergeOrder_holds : Rows.MergeOrderSaid :=
  OpenClaim.holds_of_wide 7 Tryz.f7 rfl rfl rfl rfl rfl rfl rfl ⟨rfl, rfl, rfl, rfl, rfl⟩ rfl rfl rfl rfl rfl (by kernel_rfl) Tryz.func7 mergeOrder_closed
    (of_decide_eq_true (by kernel_rfl)) (by unfold Func.isWrapper; first | (rw [if_pos (by decide +kernel)]; kernel_rfl) | (rw [if_neg (by decide +kernel)]; exact ⟨rfl, rfl⟩))
    (fun os started H enc _ => mergeOrder_lifted os started H enc)

end Go.Proofs.YtablikngmojchaaGreat