/-
  YticfklecmdjklaaJoin: the laws of this seat return true for every input, each argument reads as it read. No conditions.
-/
import Derived.Test.YticfklecmdjklaaRows
import Derived.Test.YticfklecmdjklaaD52H
import Derived.WalkKit
import Derived.ProofKit
import Derived.OpenShut
import Derived.Shelf.Strings.Search1
import Derived.Shelf.Strings.Search2
import Derived.Shelf.Strings.Cut
import Derived.Shelf.LaysM
import Derived.Shelf.Strings.Shaped
namespace Go.Proofs.Yticfklecmdjklaa
open Go.ChangeShapes Go.WideShapes Go.ChangeAt Go.RowKit
set_option linter.unusedVariables false
set_option linter.unusedSimpArgs false

theorem Try.own : ownKnob Try.prog.godebug = none := by kernel_rfl
theorem Try.laidOut : laidOutB Try.prog = true := by kernel_rfl

end Go.Proofs.Yticfklecmdjklaa
namespace Go.Proofs
open Go.Shelf
def Try.lays219_ren : Go.Shelf.Ren := ⟨fun | 219 => 29 | 217 => 32 | 225 => 33 | 224 => 34 | 267 => 35 | 266 => 36 | 314 => 37 | n => n, fun | 9 => 9 | 3 => 3 | 4 => 4 | 5 => 5 | 46 => 49 | 146 => 51 | 51 => 50 | n => n, fun | 1 => 0 | n => n⟩
theorem Try.lays219 : Go.Proofs.Lays.n219 Try.prog Try.lays219_ren := {
  mixed := by kernel_rfl
  f217 := Try.func32.trans (congrArg some (by kernel_rfl))
  f219 := Try.func29.trans (congrArg some (by kernel_rfl))
  f224 := Try.func34.trans (congrArg some (by kernel_rfl))
  f225 := Try.func33.trans (congrArg some (by kernel_rfl))
  f266 := Try.func36.trans (congrArg some (by kernel_rfl))
  f267 := Try.func35.trans (congrArg some (by kernel_rfl))
  f314 := Try.func37.trans (congrArg some (by kernel_rfl))
  t3 := Try.underlying3
  a3 := Try.isAgg3
  z3 := Try.sizeOf3
  v3 := Try.zeroValue3
  t4 := Try.underlying4
  a4 := Try.isAgg4
  z4 := Try.sizeOf4
  v4 := Try.zeroValue4
  t5 := Try.underlying5
  a5 := Try.isAgg5
  z5 := Try.sizeOf5
  v5 := Try.zeroValue5
  t9 := Try.underlying9
  a9 := Try.isAgg9
  z9 := Try.sizeOf9
  v9 := Try.zeroValue9
  t46 := Try.underlying49
  a46 := Try.isAgg49
  z46 := Try.sizeOf49
  v46 := Try.zeroValue49
  t51 := Try.underlying50
  a51 := Try.isAgg50
  z51 := Try.sizeOf50
  v51 := Try.zeroValue50
  t146 := Try.underlying51
  a146 := Try.isAgg51
  z146 := Try.sizeOf51
  v146 := Try.zeroValue51
  g1 := by kernel_rfl }
open Go.RowKit Go.Lib in
/-- internal/stringslite.Index (what strings.Index calls) AT A substr OF ONE BYTE c: IT RETURNS 'Lib.indexByte s c'; the world is as it was. (LAID: no walk: one application.) -/
theorem Try.stringslite_Index_one (s : ByteArray) (c : UInt8) (w : World) :
    Calls Try.prog 29 #[.string s, .string ⟨#[c]⟩] w fun e w' => e = .returned (.int .i64 (Lib.indexByte s.data.toList c)) ∧ w' = w := Any.stringslite_Index_one Try.lays219 s c w
end Go.Proofs
namespace Go.Proofs.Yticfklecmdjklaa
open Go.ChangeShapes Go.WideShapes Go.ChangeAt Go.RowKit
theorem Try.pr : Go.GB.C52.Pr Try.prog where
  mixed := by kernel_rfl
  i3 := by kernel_rfl
  i4 := by kernel_rfl
  i5 := by kernel_rfl
  i6 := by kernel_rfl
  i7 := by kernel_rfl
  i8 := by kernel_rfl
  i9 := by kernel_rfl
  i10 := by kernel_rfl
  i11 := by kernel_rfl
  i12 := by kernel_rfl
  i13 := by kernel_rfl
  i14 := by kernel_rfl
  i15 := by kernel_rfl
  i16 := by kernel_rfl
  i17 := by kernel_rfl
  i18 := by kernel_rfl
  i19 := by kernel_rfl
  i20 := by kernel_rfl
  i21 := by kernel_rfl
  i22 := by kernel_rfl
  i23 := by kernel_rfl
  i24 := by kernel_rfl
  i25 := by kernel_rfl
  i26 := by kernel_rfl
  i27 := by kernel_rfl
  i28 := by kernel_rfl
  i30 := by kernel_rfl
  i31 := by kernel_rfl
  idx := fun s c => by
    refine Go.GB.FnOk.of_calls (fun args w => ?_) (fun Λ args hs hsz hargs => ?_) rfl
    · exact Go.GB.hasB_of Try.func29 (by kernel_rfl)
    · obtain ⟨a, b, rfl⟩ := Go.GB.arr2 hsz
      have h1 := hargs 0 a _ rfl rfl
      have h2 := hargs 1 b _ rfl rfl
      obtain rfl := h1.repT.str_inv
      obtain rfl := h2.repT.str_inv
      exact ⟨_, .t (.int _ _), Try.stringslite_Index_one ⟨⟨s⟩⟩ c Λ.w⟩

set_option maxRecDepth 100000 in
theorem behaviorRight_lifted (os : Os) (started : os.Started) (H : Type) (enc : TypeId × Value → H) :
    ReturnsInHanded {} Try.checked os 3 .any (Rows.behaviorRightSpec.pre6 enc Try.prog Try.f3 Rows.behaviorRightRow.domain false) (Rows.behaviorRightSpec.post enc Try.prog Try.f3 false true false false) := by
  refine returnsInHanded_of_change (C := Try.checked) Try.own started (by kernel_rfl) Try.func3
    (ChangeSpec.witness6 (enc := enc) (C := Try.checked) false ⟨#[], #[.agg #[.int .i64 0, .int .i64 0, .int .i64 0, .int .i64 0, .int .i64 0, .string .empty]], []⟩ 8 (by kernel_rfl) (by kernel_rfl) (by kernel_rfl) (by kernel_rfl)) ?_
  intro W base args ds gs before hval hW hcnd _
  refine Go.GB.law_ok [23, 26, 27, 35, 3, 9] (by kernel_rfl) Try.laidOut (by kernel_rfl) (by kernel_rfl) Try.underlying4 rfl (fun ds h => ?_) W base args ds gs before hval hW (fun vs h => ?_)
  · have h : ds.length = 1 := h.trans (by kernel_rfl)
    obtain ⟨a, rfl⟩ := Go.GB.len1 h; rfl
  · rw [Try.params3] at h
    have g0 := h; clear h
    obtain ⟨xs1, r, rfl, k1, g1⟩ := g0.cons_inv (m := 8) (sh := Go.GB.C52.behSh) (by kernel_rfl)
    obtain ⟨a1, rfl, ha1⟩ := Go.GB.C52.beh_of k1
    obtain rfl := g1.nil_inv
    rw [Go.GB.argV_agg (by kernel_rfl)]
    exact Go.GB.C52.law3 Try.pr a1 ha1
theorem behaviorRight_holds : Rows.BehaviorRightSaid :=
  OpenClaim.holds_of_wide 3 Try.f3 rfl rfl rfl rfl rfl rfl rfl ⟨rfl, rfl, rfl, rfl, rfl⟩ rfl rfl rfl rfl rfl (by kernel_rfl) Try.func3 (by kernel_rfl)
    (of_decide_eq_true (by kernel_rfl)) (by unfold Func.isWrapper; first | (rw [if_pos (by decide +kernel)]; kernel_rfl) | (rw [if_neg (by decide +kernel)]; exact ⟨rfl, rfl⟩))
    (fun os started H enc _ => behaviorRight_lifted os started H enc)

set_option maxRecDepth 100000 in
theorem behaviorNow_lifted (os : Os) (started : os.Started) (H : Type) (enc : TypeId × Value → H) :
    ReturnsInHanded {} Try.checked os 4 .any (Rows.behaviorNowSpec.pre6 enc Try.prog Try.f4 Rows.behaviorNowRow.domain false) (Rows.behaviorNowSpec.post enc Try.prog Try.f4 false true false false) := by
  refine returnsInHanded_of_change (C := Try.checked) Try.own started (by kernel_rfl) Try.func4
    (ChangeSpec.witness6 (enc := enc) (C := Try.checked) false ⟨#[], #[.slice none 0 0, .agg #[.int .i64 0, .int .i64 0], .string .empty], []⟩ 8 (by kernel_rfl) (by kernel_rfl) (by kernel_rfl) (by kernel_rfl)) ?_
  intro W base args ds gs before hval hW hcnd _
  refine Go.GB.law_ok [23, 26, 27, 35, 3, 9] (by kernel_rfl) Try.laidOut (by kernel_rfl) (by kernel_rfl) Try.underlying4 rfl (fun ds h => ?_) W base args ds gs before hval hW (fun vs h => ?_)
  · have h : ds.length = 3 := h.trans (by kernel_rfl)
    obtain ⟨a, b, c, rfl⟩ := Go.GB.len3 h; rfl
  · rw [Try.params4] at h
    have g0 := h; clear h
    obtain ⟨xs1, r, rfl, k1, g1⟩ := g0.cons_inv (m := 8) (sh := [.lst Go.GB.C52.behSh]) (by kernel_rfl)
    obtain ⟨a1, rfl, ha1⟩ := Go.GB.C52.behs_of k1
    obtain ⟨xs2, r, rfl, k2, g2⟩ := g1.cons_inv (m := 8) (sh := [.int .i64, .int .i64]) (by kernel_rfl)
    obtain ⟨a2, a2b, rfl⟩ := Go.GB.C52.two_of k2
    obtain ⟨xs3, r, rfl, k3, g3⟩ := g2.cons_inv (m := 8) (sh := [.str]) (by kernel_rfl)
    obtain ⟨a3, rfl⟩ := Go.GB.C52.str_of k3
    obtain rfl := g3.nil_inv
    rw [Go.GB.argV_one (by kernel_rfl), Go.GB.argV_agg (by kernel_rfl), Go.GB.argV_one (by kernel_rfl)]
    exact Go.GB.C52.law4 Try.pr a1 ha1 a2 a2b a3
theorem behaviorNow_holds : Rows.BehaviorNowSaid :=
  OpenClaim.holds_of_wide 4 Try.f4 rfl rfl rfl rfl rfl rfl rfl ⟨rfl, rfl, rfl, rfl, rfl⟩ rfl rfl rfl rfl rfl (by kernel_rfl) Try.func4 (by kernel_rfl)
    (of_decide_eq_true (by kernel_rfl)) (by unfold Func.isWrapper; first | (rw [if_pos (by decide +kernel)]; kernel_rfl) | (rw [if_neg (by decide +kernel)]; exact ⟨rfl, rfl⟩))
    (fun os started H enc _ => behaviorNow_lifted os started H enc)

set_option maxRecDepth 100000 in
theorem behaviorNext_lifted (os : Os) (started : os.Started) (H : Type) (enc : TypeId × Value → H) :
    ReturnsInHanded {} Try.checked os 5 .any (Rows.behaviorNextSpec.pre6 enc Try.prog Try.f5 Rows.behaviorNextRow.domain false) (Rows.behaviorNextSpec.post enc Try.prog Try.f5 false true false false) := by
  refine returnsInHanded_of_change (C := Try.checked) Try.own started (by kernel_rfl) Try.func5
    (ChangeSpec.witness6 (enc := enc) (C := Try.checked) false ⟨#[], #[.slice none 0 0, .int .i64 0], []⟩ 8 (by kernel_rfl) (by kernel_rfl) (by kernel_rfl) (by kernel_rfl)) ?_
  intro W base args ds gs before hval hW hcnd _
  refine Go.GB.law_ok [23, 26, 27, 35, 3, 9] (by kernel_rfl) Try.laidOut (by kernel_rfl) (by kernel_rfl) Try.underlying4 rfl (fun ds h => ?_) W base args ds gs before hval hW (fun vs h => ?_)
  · have h : ds.length = 2 := h.trans (by kernel_rfl)
    obtain ⟨a, b, rfl⟩ := Go.GB.len2 h; rfl
  · rw [Try.params5] at h
    have g0 := h; clear h
    obtain ⟨xs1, r, rfl, k1, g1⟩ := g0.cons_inv (m := 8) (sh := [.lst Go.GB.C52.behSh]) (by kernel_rfl)
    obtain ⟨a1, rfl, ha1⟩ := Go.GB.C52.behs_of k1
    obtain ⟨xs2, r, rfl, k2, g2⟩ := g1.cons_inv (m := 8) (sh := [.int .i64]) (by kernel_rfl)
    obtain ⟨a2, rfl⟩ := Go.GB.C52.int_of k2
    obtain rfl := g2.nil_inv
    rw [Go.GB.argV_one (by kernel_rfl), Go.GB.argV_one (by kernel_rfl)]
    exact Go.GB.C52.law5 Try.pr a1 ha1 a2
theorem behaviorNext_holds : Rows.BehaviorNextSaid :=
  OpenClaim.holds_of_wide 5 Try.f5 rfl rfl rfl rfl rfl rfl rfl ⟨rfl, rfl, rfl, rfl, rfl⟩ rfl rfl rfl rfl rfl (by kernel_rfl) Try.func5 (by kernel_rfl)
    (of_decide_eq_true (by kernel_rfl)) (by unfold Func.isWrapper; first | (rw [if_pos (by decide +kernel)]; kernel_rfl) | (rw [if_neg (by decide +kernel)]; exact ⟨rfl, rfl⟩))
    (fun os started H enc _ => behaviorNext_lifted os started H enc)

set_option maxRecDepth 100000 in
theorem behaviorConstant_lifted (os : Os) (started : os.Started) (H : Type) (enc : TypeId × Value → H) :
    ReturnsInHanded {} Try.checked os 6 .any (Rows.behaviorConstantSpec.pre6 enc Try.prog Try.f6 Rows.behaviorConstantRow.domain false) (Rows.behaviorConstantSpec.post enc Try.prog Try.f6 false true false false) := by
  refine returnsInHanded_of_change (C := Try.checked) Try.own started (by kernel_rfl) Try.func6
    (ChangeSpec.witness6 (enc := enc) (C := Try.checked) false ⟨#[], #[.slice none 0 0, .agg #[.int .i64 0, .int .i64 0, .int .i64 0], .string .empty], []⟩ 8 (by kernel_rfl) (by kernel_rfl) (by kernel_rfl) (by kernel_rfl)) ?_
  intro W base args ds gs before hval hW hcnd _
  refine Go.GB.law_ok [23, 26, 27, 35, 3, 9] (by kernel_rfl) Try.laidOut (by kernel_rfl) (by kernel_rfl) Try.underlying4 rfl (fun ds h => ?_) W base args ds gs before hval hW (fun vs h => ?_)
  · have h : ds.length = 3 := h.trans (by kernel_rfl)
    obtain ⟨a, b, c, rfl⟩ := Go.GB.len3 h; rfl
  · rw [Try.params6] at h
    have g0 := h; clear h
    obtain ⟨xs1, r, rfl, k1, g1⟩ := g0.cons_inv (m := 8) (sh := [.lst Go.GB.C52.behSh]) (by kernel_rfl)
    obtain ⟨a1, rfl, ha1⟩ := Go.GB.C52.behs_of k1
    obtain ⟨xs2, r, rfl, k2, g2⟩ := g1.cons_inv (m := 8) (sh := [.int .i64, .int .i64, .int .i64]) (by kernel_rfl)
    obtain ⟨a2, a2b, a2c, rfl⟩ := Go.GB.C52.three_of k2
    obtain ⟨xs3, r, rfl, k3, g3⟩ := g2.cons_inv (m := 8) (sh := [.str]) (by kernel_rfl)
    obtain ⟨a3, rfl⟩ := Go.GB.C52.str_of k3
    obtain rfl := g3.nil_inv
    rw [Go.GB.argV_one (by kernel_rfl), Go.GB.argV_agg (by kernel_rfl), Go.GB.argV_one (by kernel_rfl)]
    exact Go.GB.C52.law6 Try.pr a1 ha1 a2 a2b a2c a3
theorem behaviorConstant_holds : Rows.BehaviorConstantSaid :=
  OpenClaim.holds_of_wide 6 Try.f6 rfl rfl rfl rfl rfl rfl rfl ⟨rfl, rfl, rfl, rfl, rfl⟩ rfl rfl rfl rfl rfl (by kernel_rfl) Try.func6 (by kernel_rfl)
    (of_decide_eq_true (by kernel_rfl)) (by unfold Func.isWrapper; first | (rw [if_pos (by decide +kernel)]; kernel_rfl) | (rw [if_neg (by decide +kernel)]; exact ⟨rfl, rfl⟩))
    (fun os started H enc _ => behaviorConstant_lifted os started H enc)

set_option maxRecDepth 100000 in
theorem behaviorLists_lifted (os : Os) (started : os.Started) (H : Type) (enc : TypeId × Value → H) :
    ReturnsInHanded {} Try.checked os 7 .any (Rows.behaviorListsSpec.pre6 enc Try.prog Try.f7 Rows.behaviorListsRow.domain false) (Rows.behaviorListsSpec.post enc Try.prog Try.f7 false true false false) := by
  refine returnsInHanded_of_change (C := Try.checked) Try.own started (by kernel_rfl) Try.func7
    (ChangeSpec.witness6 (enc := enc) (C := Try.checked) false ⟨#[], #[.slice none 0 0, .slice none 0 0, .agg #[.int .i64 0, .int .i64 0]], []⟩ 8 (by kernel_rfl) (by kernel_rfl) (by kernel_rfl) (by kernel_rfl)) ?_
  intro W base args ds gs before hval hW hcnd _
  refine Go.GB.law_ok [23, 26, 27, 35, 3, 9] (by kernel_rfl) Try.laidOut (by kernel_rfl) (by kernel_rfl) Try.underlying4 rfl (fun ds h => ?_) W base args ds gs before hval hW (fun vs h => ?_)
  · have h : ds.length = 3 := h.trans (by kernel_rfl)
    obtain ⟨a, b, c, rfl⟩ := Go.GB.len3 h; rfl
  · rw [Try.params7] at h
    have g0 := h; clear h
    obtain ⟨xs1, r, rfl, k1, g1⟩ := g0.cons_inv (m := 8) (sh := [.lst Go.GB.C52.behSh]) (by kernel_rfl)
    obtain ⟨a1, rfl, ha1⟩ := Go.GB.C52.behs_of k1
    obtain ⟨xs2, r, rfl, k2, g2⟩ := g1.cons_inv (m := 8) (sh := [.lst Go.GB.C52.behSh]) (by kernel_rfl)
    obtain ⟨a2, rfl, ha2⟩ := Go.GB.C52.behs_of k2
    obtain ⟨xs3, r, rfl, k3, g3⟩ := g2.cons_inv (m := 8) (sh := [.int .i64, .int .i64]) (by kernel_rfl)
    obtain ⟨a3, a3b, rfl⟩ := Go.GB.C52.two_of k3
    obtain rfl := g3.nil_inv
    rw [Go.GB.argV_one (by kernel_rfl), Go.GB.argV_one (by kernel_rfl), Go.GB.argV_agg (by kernel_rfl)]
    exact Go.GB.C52.law7 Try.pr a1 a2 ha1 ha2 a3 a3b
theorem behaviorLists_holds : Rows.BehaviorListsSaid :=
  OpenClaim.holds_of_wide 7 Try.f7 rfl rfl rfl rfl rfl rfl rfl ⟨rfl, rfl, rfl, rfl, rfl⟩ rfl rfl rfl rfl rfl (by kernel_rfl) Try.func7 (by kernel_rfl)
    (of_decide_eq_true (by kernel_rfl)) (by unfold Func.isWrapper; first | (rw [if_pos (by decide +kernel)]; kernel_rfl) | (rw [if_neg (by decide +kernel)]; exact ⟨rfl, rfl⟩))
    (fun os started H enc _ => behaviorLists_lifted os started H enc)

end Go.Proofs.Yticfklecmdjklaa