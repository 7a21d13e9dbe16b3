/-
  YtilonlfmalfofaaJoin: the laws of this seat return true for every input, each argument reads as it read. No conditions.
-/
import Derived.Test.YtilonlfmalfofaaRows
import Derived.Test.YtilonlfmalfofaaP7
import Derived.Test.YtilonlfmalfofaaP8
import Derived.WalkKit
import Derived.ProofKit
import Derived.OpenShut
namespace Go.Proofs.Ytilonlfmalfofaa
open Go.ChangeShapes Go.WideShapes Go.ChangeAt Go.RowKit
set_option linter.unusedVariables false
set_option linter.unusedSimpArgs false

theorem Try.own : ownKnob Try.prog.godebug = none := by kernel_rfl
theorem Try.laidOut : laidOutB Try.prog = true := by kernel_rfl

theorem Try.sp : ∀ e i n xs, Go.GB.spA 35 66 e = some i → xs.length * Try.prog.bytesOf e ≤ reachBytes → xs.length ≤ maxLen → (∀ c ∈ xs, Go.GB.WT Try.prog n e c) → Go.GB.YA i (.lst xs) :=
  Go.GB.spA_ok (by kernel_rfl) (by kernel_rfl) (by kernel_rfl) (by kernel_rfl)

theorem Try.pr : Go.GB.C43.Pr Try.prog where
  mixed := by kernel_rfl
  i3 := by kernel_rfl
  i4 := by kernel_rfl
  i5 := by kernel_rfl
  i6 := by kernel_rfl
  i7 := by kernel_rfl
  i13 := by kernel_rfl
  i14 := by kernel_rfl
  i15 := by kernel_rfl
  i16 := by kernel_rfl
  i17 := by kernel_rfl
  i18 := by kernel_rfl
  i19 := by kernel_rfl
  i20 := by kernel_rfl
  i21 := by kernel_rfl
  i22 := by kernel_rfl
  i23 := by kernel_rfl
  i24 := by kernel_rfl
  i25 := by kernel_rfl
  i26 := by kernel_rfl
  i27 := by kernel_rfl
  i28 := by kernel_rfl
  i29 := by kernel_rfl
  i30 := by kernel_rfl
  i31 := by kernel_rfl
  i46 := by kernel_rfl
  i47 := by kernel_rfl
  i48 := by kernel_rfl
  i49 := by kernel_rfl
  i50 := by kernel_rfl
  i51 := by kernel_rfl
  i52 := by kernel_rfl
  i53 := by kernel_rfl
  i54 := by kernel_rfl
  i55 := by kernel_rfl
  i56 := by kernel_rfl
  i57 := by kernel_rfl
  i58 := by kernel_rfl
  i59 := by kernel_rfl
  i60 := by kernel_rfl
  i61 := by kernel_rfl
  i84 := by kernel_rfl
  i86 := by kernel_rfl
  i88 := by kernel_rfl
  i89 := by kernel_rfl
  i90 := by kernel_rfl
  i91 := by kernel_rfl
  i92 := by kernel_rfl
  i93 := by kernel_rfl
  i94 := by kernel_rfl
  i95 := by kernel_rfl
  i96 := by kernel_rfl
  i97 := by kernel_rfl
  i98 := by kernel_rfl
  i99 := by kernel_rfl
  i100 := by kernel_rfl
  i101 := by kernel_rfl
  i102 := by kernel_rfl
  i103 := by kernel_rfl
  i104 := by kernel_rfl
  i105 := by kernel_rfl
  i114 := by kernel_rfl
  i116 := by kernel_rfl
  i117 := by kernel_rfl
  i118 := by kernel_rfl
  i119 := by kernel_rfl
  i120 := by kernel_rfl
  i121 := by kernel_rfl
  i122 := by kernel_rfl
  i123 := by kernel_rfl
  i124 := by kernel_rfl
  i125 := by kernel_rfl
  i126 := by kernel_rfl
  i127 := by kernel_rfl
  i128 := by kernel_rfl
  i132 := by kernel_rfl
  i133 := by kernel_rfl
theorem Try.pr40 : Go.GB.C43.Pr40 Try.prog where
  toPr := Try.pr
  i8 := by kernel_rfl
  i9 := by kernel_rfl
  i10 := by kernel_rfl
  i11 := by kernel_rfl
  i12 := by kernel_rfl
  i32 := by kernel_rfl
  i33 := by kernel_rfl
  i34 := by kernel_rfl
  i35 := by kernel_rfl
  i36 := by kernel_rfl
  i37 := by kernel_rfl
  i38 := by kernel_rfl
  i39 := by kernel_rfl
  i40 := by kernel_rfl
  i41 := by kernel_rfl
  i42 := by kernel_rfl
  i43 := by kernel_rfl
  i44 := by kernel_rfl
  i45 := by kernel_rfl
  i62 := by kernel_rfl
  i63 := by kernel_rfl
  i64 := by kernel_rfl
  i65 := by kernel_rfl
  i66 := by kernel_rfl
  i67 := by kernel_rfl
  i68 := by kernel_rfl
  i69 := by kernel_rfl
  i70 := by kernel_rfl
  i71 := by kernel_rfl
  i72 := by kernel_rfl
  i73 := by kernel_rfl
  i74 := by kernel_rfl
  i75 := by kernel_rfl
  i76 := by kernel_rfl
  i77 := by kernel_rfl
  i78 := by kernel_rfl
  i79 := by kernel_rfl
  i80 := by kernel_rfl
  i81 := by kernel_rfl
  i82 := by kernel_rfl
  i83 := by kernel_rfl
  i85 := by kernel_rfl
  i87 := by kernel_rfl
  i106 := by kernel_rfl
  i107 := by kernel_rfl
  i108 := by kernel_rfl
  i109 := by kernel_rfl
  i110 := by kernel_rfl
  i111 := by kernel_rfl
  i112 := by kernel_rfl
  i113 := by kernel_rfl
  i115 := by kernel_rfl
  i129 := by kernel_rfl
  i130 := by kernel_rfl
  i131 := by kernel_rfl
set_option maxRecDepth 100000 in
theorem costBounds_lifted (os : Os) (started : os.Started) (H : Type) (enc : TypeId × Value → H) :
    ReturnsInHanded {} Try.checked os 11 .any (Rows.costBoundsSpec.pre6 enc Try.prog Try.f11 Rows.costBoundsRow.domain false) (Rows.costBoundsSpec.post enc Try.prog Try.f11 false true false false) := by
  refine Go.GB.handed (C := Try.checked) Try.own started (by kernel_rfl) Try.func11
    (ChangeSpec.witness6 (enc := enc) (C := Try.checked) false ⟨#[], #[.agg #[.slice none 0 0, .string .empty, .slice none 0 0, .int .i64 0, .int .i64 0, .string .empty, .slice none 0 0, .slice none 0 0]], []⟩ 8 (by kernel_rfl) (by kernel_rfl) (by kernel_rfl) (by kernel_rfl)) ?_
  intro W base args ds gs before hval hW hwt
  refine Go.GB.law_ok [3, 4, 9, 22, 24, 25, 32, 33, 35, 51, 52, 53, 54, 56, 57, 59, 61, 64, 66, 72, 76, 98, 104, 125, 145] (by kernel_rfl) Try.laidOut (by kernel_rfl) (by kernel_rfl) Try.underlying4 rfl (fun ds h => ?_) W base args ds gs before hval hW hwt (fun vs h => ?_)
  · have h : ds.length = 1 := h.trans (by kernel_rfl)
    obtain ⟨a, rfl⟩ := Go.GB.len1 h; rfl
  · rw [Try.params11] at h
    have g0 := h; clear h
    obtain ⟨xs1, r, rfl, k1, g1⟩ := g0.cons_inv (m := 14) (sh := Go.GB.C43.case40Sh) Try.sp (by kernel_rfl)
    obtain ⟨d1, s1, l1, v1, rfl, dk1, lk1, pk1, vk1⟩ := Go.GB.C43.case40_sh k1
    obtain rfl := g1.nil_inv
    rw [Go.GB.argV_agg (by kernel_rfl)]
    exact Go.GB.C43.law11_ok Try.pr40 d1 dk1 s1 l1 lk1 pk1 v1 vk1
theorem costBounds_holds : Rows.CostBoundsSaid :=
  OpenClaim.holds_of_wide 11 Try.f11 rfl rfl rfl rfl rfl rfl rfl ⟨rfl, rfl, rfl, rfl, rfl⟩ rfl rfl rfl rfl rfl (by kernel_rfl) Try.func11 (by kernel_rfl)
    (of_decide_eq_true (by kernel_rfl)) (by unfold Func.isWrapper; first | (rw [if_pos (by decide +kernel)]; kernel_rfl) | (rw [if_neg (by decide +kernel)]; exact ⟨rfl, rfl⟩))
    (fun os started H enc _ => costBounds_lifted os started H enc)

end Go.Proofs.Ytilonlfmalfofaa