/-
  YtpakhiccblfcmaaGreatJoin: a law of this seat returns true for every input of bulk at most 1048576, each argument reads as it read.
-/
import Derived.Test.YtpakhiccblfcmaaGreatRows
import Derived.Test.YtpakhiccblfcmaaGreatP8
import Derived.Test.YtpakhiccblfcmaaGreatP7
import Derived.WalkKit
import Derived.ProofKit
import Derived.OpenShut
namespace Go.Proofs.YtpakhiccblfcmaaGreat
open Go.ChangeShapes Go.WideShapes Go.ChangeAt Go.RowKit
set_option linter.unusedVariables false
set_option linter.unusedSimpArgs false

theorem Tryz.own : ownKnob Tryz.prog.godebug = none := by kernel_rfl
theorem Tryz.laidOut : laidOutB Tryz.prog = true := by kernel_rfl
theorem andT {a b : Bool} (h : a = true) (k : b = true) : (a && b) = true := by rw [h, k]; rfl
theorem Tryz.bulkAll {H : Type} : ∀ l : List (DataW H), Rows.uptoBulkAll l = (l.map Rows.uptoBulk).sum
  | [] => by simp [Rows.uptoBulkAll]
  | x :: r => by simp only [Rows.uptoBulkAll, List.map_cons, List.sum_cons, Tryz.bulkAll r]
theorem Tryz.bulk {H : Type} : Go.GB.zbt (H := H) Rows.uptoBulk where
  lit := fun l => by cases l <;> simp [Rows.uptoBulk]
  str := fun bs => by simp [Rows.uptoBulk]
  nil := by simp [Rows.uptoBulk]
  slice := fun e s => by simp only [Rows.uptoBulk, Tryz.bulkAll]; omega
  agg := fun ps => by simp only [Rows.uptoBulk, Tryz.bulkAll]; omega

theorem Tryz.sp : ∀ e i n xs, Go.GB.spA 79 56 e = some i → xs.length * Tryz.prog.bytesOf e ≤ reachBytes → xs.length ≤ maxLen → (∀ c ∈ xs, Go.GB.WT Tryz.prog n e c) → Go.GB.YA i (.lst xs) :=
  Go.GB.zh2 (by kernel_rfl) (by kernel_rfl) (by kernel_rfl) (by kernel_rfl)

theorem Tryz.pr : Go.GB.C26.Pr Tryz.prog where
  mixed := by kernel_rfl
  i32 := by kernel_rfl
  i33 := by kernel_rfl
  i44 := by kernel_rfl
  i52 := by kernel_rfl
  i26 := by kernel_rfl
  i28 := by kernel_rfl
  i56 := by kernel_rfl
  i80 := by kernel_rfl
  i58 := by kernel_rfl
  i57 := by kernel_rfl
  i69 := by kernel_rfl
  i59 := by kernel_rfl
  i70 := by kernel_rfl
  i47 := by kernel_rfl
  i48 := by kernel_rfl
  i49 := by kernel_rfl
  i79 := by kernel_rfl
  i81 := by kernel_rfl
  i82 := by kernel_rfl
  i83 := by kernel_rfl
  i85 := by kernel_rfl
  i104 := by kernel_rfl
  i105 := by kernel_rfl
  i84 := by kernel_rfl
  i72 := by kernel_rfl
  i106 := by kernel_rfl
  i107 := by kernel_rfl
  i108 := by kernel_rfl
  i109 := by kernel_rfl
theorem Tryz.pr11 : Go.GB.C11.Pr Tryz.prog where
  mixed := by kernel_rfl
  i34 := by kernel_rfl
  i50 := by kernel_rfl
  i143 := by kernel_rfl
  i114 := by kernel_rfl
  i136 := by kernel_rfl
  i63 := by kernel_rfl
  i37 := by kernel_rfl
  i101 := by kernel_rfl
  i85 := by kernel_rfl
  i116 := by kernel_rfl
  i60 := by kernel_rfl
  i61 := by kernel_rfl
  i73 := by kernel_rfl
  i74 := by kernel_rfl
  i75 := by kernel_rfl
  i86 := by kernel_rfl
  i129 := by kernel_rfl
  i126 := by kernel_rfl
  i142 := by kernel_rfl
  i91 := by kernel_rfl
  i92 := by kernel_rfl
  i93 := by kernel_rfl
  i94 := by kernel_rfl
  i109 := by kernel_rfl
  i110 := by kernel_rfl
  i111 := by kernel_rfl
  i41 := by kernel_rfl
  i139 := by kernel_rfl
  i98 := by kernel_rfl
  i54 := by kernel_rfl
  i117 := by kernel_rfl
  i118 := by kernel_rfl
  i119 := by kernel_rfl
  i120 := by kernel_rfl
  i121 := by kernel_rfl
  i122 := by kernel_rfl
  i133 := by kernel_rfl
  i134 := by kernel_rfl
  i135 := by kernel_rfl
  i103 := by kernel_rfl
  i99 := by kernel_rfl
  i141 := by kernel_rfl
theorem Tryz.pr13 : Go.GB.C11.Pr13 Tryz.prog where
  toPr := Tryz.pr11
  i64 := by kernel_rfl
  i23 := by kernel_rfl
  i27 := by kernel_rfl
  i95 := by kernel_rfl
  i96 := by kernel_rfl
  i130 := by kernel_rfl
  i112 := by kernel_rfl
  i123 := by kernel_rfl
  i124 := by kernel_rfl
  i131 := by kernel_rfl
  i132 := by kernel_rfl
  i30 := by kernel_rfl
  i140 := by kernel_rfl
  i146 := by kernel_rfl
theorem Tryz.pr18 : Go.GB.C18.zaI Tryz.prog where
  toPr13 := Tryz.pr13
  i144 := by kernel_rfl
  i147 := by kernel_rfl
  i31 := by kernel_rfl
  i70 := by kernel_rfl
  i155 := by kernel_rfl
  i55 := by kernel_rfl
  i76 := by kernel_rfl
  i77 := by kernel_rfl
  i78 := by kernel_rfl
theorem Tryz.pr29 : Go.GB.C29.YX Tryz.prog where
  p26 := Tryz.pr
  p11 := Tryz.pr11
  mixed := by kernel_rfl
  i8 := by kernel_rfl
  i9 := by kernel_rfl
  i10 := by kernel_rfl
  i14 := by kernel_rfl
  i22 := by kernel_rfl
  i21 := by kernel_rfl
  i23 := by kernel_rfl
  i24 := by kernel_rfl
  i25 := by kernel_rfl
  i27 := by kernel_rfl
  i39 := by kernel_rfl
  i40 := by kernel_rfl
  i41 := by kernel_rfl
  i42 := by kernel_rfl
  i43 := by kernel_rfl
  i45 := by kernel_rfl
  i46 := by kernel_rfl
  i47 := by kernel_rfl
  i68 := by kernel_rfl
  i71 := by kernel_rfl
  i72 := by kernel_rfl
theorem Tryz.prR29 : Go.GB.C29.z2E Tryz.prog where
  p29 := Tryz.pr29
  mixed := by kernel_rfl
  i11 := by kernel_rfl
  i15 := by kernel_rfl
  i29 := by kernel_rfl
  i51 := by kernel_rfl
  i53 := by kernel_rfl
theorem Tryz.prW : Go.GB.C29.PrW Tryz.prog where
  p18 := Tryz.pr18
  mixed := by kernel_rfl
  i36 := by kernel_rfl
  i65 := by kernel_rfl
  i97 := by kernel_rfl
  i125 := by kernel_rfl
  i127 := by kernel_rfl
  i137 := by kernel_rfl
  i138 := by kernel_rfl
  i145 := by kernel_rfl
  i148 := by kernel_rfl
  i150 := by kernel_rfl
  i151 := by kernel_rfl
  i152 := by kernel_rfl
  i153 := by kernel_rfl
  i154 := by kernel_rfl
  i156 := by kernel_rfl
  i157 := by kernel_rfl
  i158 := by kernel_rfl
  i159 := by kernel_rfl
theorem Tryz.prS : Go.GB.C29.PrS Tryz.prog where
  w := Tryz.prW
  mixed := by kernel_rfl
  i36 := by kernel_rfl
  i65 := by kernel_rfl
theorem Tryz.prR : Go.GB.C29.PrR Tryz.prog where
  mixed := by kernel_rfl
  i35 := by kernel_rfl
  i62 := by kernel_rfl
  i87 := by kernel_rfl
  i88 := by kernel_rfl
  i89 := by kernel_rfl
  i90 := by kernel_rfl
  i113 := by kernel_rfl
  i115 := by kernel_rfl
theorem Tryz.pr35 : Go.GB.C35.Pr Tryz.prog where
  mixed := by kernel_rfl
  i130 := by kernel_rfl
  i31 := by kernel_rfl
  i55 := by kernel_rfl
  i155 := by kernel_rfl
  i147 := by kernel_rfl
  i70 := by kernel_rfl
  i76 := by kernel_rfl
  i77 := by kernel_rfl
  i78 := by kernel_rfl
theorem Tryz.prP : Go.GB.C29.PrP Tryz.prog where
  s := Tryz.prS
  r := Tryz.prR
  c := Tryz.pr35
  p29 := Tryz.pr29
  mixed := by kernel_rfl
  i17 := by kernel_rfl
  i19 := by kernel_rfl
  i20 := by kernel_rfl
  i38 := by kernel_rfl
  i66 := by kernel_rfl
  i67 := by kernel_rfl
  i100 := by kernel_rfl
  i102 := by kernel_rfl
  i128 := by kernel_rfl
theorem Tryz.prL : Go.GB.C29.PrL Tryz.prog where
  r := Tryz.prR29
  p := Tryz.prP
  mixed := by kernel_rfl
  i7 := by kernel_rfl
  i12 := by kernel_rfl
  i13 := by kernel_rfl
  i18 := by kernel_rfl
theorem Tryz.prN : Go.GB.C29.PrN Tryz.prog where
  l := Tryz.prL
  mixed := by kernel_rfl
  i3 := by kernel_rfl
  i4 := by kernel_rfl
set_option maxRecDepth 100000 in
theorem needDepths_lifted (os : Os) (started : os.Started) (H : Type) (enc : TypeId × Value → H) (F : Stop.Interp) :
    ReturnsInHanded {} Tryz.checked os 4 .any ((Rows.OpenSpec.upto Rows.needDepthsSpec).pre6 enc Tryz.prog Tryz.f4 Rows.needDepthsUptoRow.domain false) (((Rows.OpenSpec.upto Rows.needDepthsSpec).at F).post enc Tryz.prog Tryz.f4 false true false false) := by
  refine returnsInHanded_of_cond_sized (C := Tryz.checked) (s := Rows.OpenSpec.upto Rows.needDepthsSpec) (k := Rows.uptoSmall) rfl Tryz.own started (by kernel_rfl) Tryz.func4
    (OpenSpec.witness (enc := enc) (C := Tryz.checked) (s := Rows.OpenSpec.upto Rows.needDepthsSpec) (k := Rows.uptoSmall) rfl false ⟨#[], #[.agg #[.slice none 0 0, .slice none 0 0, .slice none 0 0, .slice none 0 0], .agg #[.int .i64 0, .slice none 0 0]], []⟩ 8 (by kernel_rfl) (by kernel_rfl) (by kernel_rfl)
      (x := ([.agg [.nil, .agg [.nil], .nil, .nil], .agg [.lit (.int .i64 0), .nil]], [], [])) (by kernel_rfl) rfl (by kernel_rfl)) ?_
  intro W base args ds gs before hval hW _ hk hwt _
  have hk1 : Rows.uptoBulkAll (ds ++ gs) ≤ 1048576 := of_decide_eq_true hk
  rw [Tryz.bulkAll, List.map_append, List.sum_append] at hk1
  refine Go.GB.zgX (N := 1048576) Tryz.bulk (s := Rows.needDepthsSpec) [3, 4, 9, 22, 23, 25, 26, 27, 29, 30, 32, 51, 52, 54, 56, 77, 79, 81, 90, 92, 93, 94, 95, 96, 98, 100, 127, 174, 177] (by kernel_rfl) Tryz.laidOut (by kernel_rfl) (by kernel_rfl) Tryz.underlying4 rfl (fun ds h => ?_) W base args ds gs before hval hW hwt (by omega) (fun vs h hb => ?_)
  · have h : ds.length = 2 := h.trans (by kernel_rfl)
    obtain ⟨a, b, rfl⟩ := Go.GB.zhd h; rfl
  · rw [Tryz.params4] at h
    have g0 := h; clear h
    obtain ⟨xs1, r, rfl, k1, g1⟩ := g0.cons_inv (m := 14) (sh := Go.GB.C29.zaB) Tryz.sp (by kernel_rfl)
    obtain ⟨a1, d1, x1, y1, rfl, i1, j1⟩ := Go.GB.C29.zfB k1
    obtain ⟨xs2, r, rfl, k2, g2⟩ := g1.cons_inv (m := 14) (sh := Go.GB.C29.zaP) Tryz.sp (by kernel_rfl)
    obtain ⟨n2, l2, rfl, p2, q2⟩ := Go.GB.C29.zfi k2
    obtain rfl := g2.zgW
    rw [Go.GB.zgH (by kernel_rfl), Go.GB.zgH (by kernel_rfl)] at hb ⊢
    exact Go.GB.C29.zf3 Tryz.prN ⟨a1, .lst (d1.map Go.GB.Def.enc), x1, y1⟩ d1 n2 l2 (Go.GB.C29.zhc i1 j1 p2 q2 (by simp [Go.GB.vb, Go.GB.vbs, Go.GB.T.bulk] at hb; omega) (by simp [Go.GB.vb, Go.GB.vbs, Go.GB.T.bulk] at hb; omega))
set_option maxRecDepth 100000 in
set_option maxHeartbeats 4000000 in
theorem needDepths_closed : joinedFacts Tryz.prog 4 Tryz.f4 (Rows.OpenSpec.upto Rows.needDepthsSpec).bare Rows.needDepthsUptoRow = true := by
  unfold joinedFacts
  repeat' (with_reducible refine andT ?_ ?_)
  all_goals as_aux_lemma => kernel_rfl
theorem needDepths_holds : Rows.NeedDepthsUptoSaid :=
  OpenClaim.holds_of_cond 4 Tryz.f4 rfl rfl rfl rfl rfl rfl rfl ⟨rfl, rfl, rfl, rfl, rfl⟩ rfl rfl rfl rfl rfl (by kernel_rfl) Tryz.func4 needDepths_closed
    (of_decide_eq_true (by kernel_rfl)) (by unfold Func.isWrapper; first | (rw [if_pos (by decide +kernel)]; kernel_rfl) | (rw [if_neg (by decide +kernel)]; exact ⟨rfl, rfl⟩))
    (fun os started H enc _ F => needDepths_lifted os started H enc F)

end Go.Proofs.YtpakhiccblfcmaaGreat