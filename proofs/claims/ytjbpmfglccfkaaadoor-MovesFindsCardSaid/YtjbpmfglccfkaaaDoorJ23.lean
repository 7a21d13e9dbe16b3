/-
  YtjbpmfglccfkaaaDoorJoin: a law of this seat returns true for every input, each argument reads as it read; the listed variables start as the program's text lays them.
-/
import Derived.Test.YtjbpmfglccfkaaaDoorCards
import Derived.Test.YtjbpmfglccfkaaaDoorTie
import Derived.Test.YtjbpmfglccfkaaaDoorP6
import Derived.Test.YtjbpmfglccfkaaaDoorP4
import Derived.WalkKit
import Derived.ProofKit
import Derived.OpenShut
import Derived.Deep.DeepHandedRow
namespace Go.Proofs.YtjbpmfglccfkaaaDoor
open Go.ChangeShapes Go.WideShapes Go.ChangeAt Go.RowKit
set_option linter.unusedVariables false
set_option linter.unusedSimpArgs false

theorem Tryd.own : ownKnob Tryd.prog.godebug = none := by kernel_rfl
theorem Tryd.laidOut : laidOutB Tryd.prog = true := by kernel_rfl
theorem andT {a b : Bool} (h : a = true) (k : b = true) : (a && b) = true := by rw [h, k]; rfl
noncomputable def laidW0 (os : Os) : World :=
  { World.holding Tryd.prog os ⟨#[], #[], []⟩ with heap := (World.holding Tryd.prog os ⟨#[], #[], []⟩).heap.modify 1 fun
      | .cells _ t frozen => .cells (Go.Pinned.utf8FirstZ.map fun (n : Nat) => Value.int .u8 (n : Int)).toArray t frozen
      | o => o }
noncomputable def laidWorld (os : Os) : World :=
  { laidW0 os with heap := (laidW0 os).heap.modify 2 fun
      | .cells _ t frozen => .cells (([128, 191, 160, 191, 128, 159, 144, 191, 128, 143, 0, 0, 0, 0, 0, 0, 0, 0, 0, 0, 0, 0, 0, 0, 0, 0, 0, 0, 0, 0, 0, 0] : List Nat).map fun (n : Nat) => Value.int .u8 (n : Int)).toArray t frozen
      | o => o }

theorem Tryd.sp : ∀ e i n xs, Go.GB.spV 53 e = some i → xs.length * Tryd.prog.bytesOf e ≤ reachBytes → xs.length ≤ maxLen → (∀ c ∈ xs, Go.GB.WT Tryd.prog n e c) → Go.GB.YA i (.lst xs) :=
  Go.GB.C11.spV_ok (by kernel_rfl) (by kernel_rfl)

theorem Tryd.pr : Go.GB.C11.Pr Tryd.prog where
  mixed := by kernel_rfl
  i107 := by kernel_rfl
  i65 := by kernel_rfl
  i126 := by kernel_rfl
  i66 := by kernel_rfl
  i105 := by kernel_rfl

theorem Tryd.pr23 : Go.GB.C23.Pr23 Tryd.prog where
  toPr := Tryd.pr
  i3 := by kernel_rfl
  i4 := by kernel_rfl
  i13 := by kernel_rfl
  i19 := by kernel_rfl
  i23 := by kernel_rfl
  i25 := by kernel_rfl
  i46 := by kernel_rfl
  i47 := by kernel_rfl
  i48 := by kernel_rfl
  i56 := by kernel_rfl
  i57 := by kernel_rfl
  i69 := by kernel_rfl
  i70 := by kernel_rfl
  i89 := by kernel_rfl
  i90 := by kernel_rfl
  i91 := by kernel_rfl
  i116 := by kernel_rfl
  i130 := by kernel_rfl
theorem Tryd.pr25 : Go.GB.C23.Pr25 Tryd.prog where
  toPr23 := Tryd.pr23
  i11 := by kernel_rfl
  i32 := by kernel_rfl
  i33 := by kernel_rfl
  i38 := by kernel_rfl
  i39 := by kernel_rfl
  i40 := by kernel_rfl
  i41 := by kernel_rfl
  i42 := by kernel_rfl
  i43 := by kernel_rfl
  i44 := by kernel_rfl
  i45 := by kernel_rfl
  i60 := by kernel_rfl
  i61 := by kernel_rfl
  i62 := by kernel_rfl
  i63 := by kernel_rfl
  i64 := by kernel_rfl
  i68 := by kernel_rfl
  i81 := by kernel_rfl
  i82 := by kernel_rfl
  i83 := by kernel_rfl
  i84 := by kernel_rfl
  i85 := by kernel_rfl
  i86 := by kernel_rfl
  i87 := by kernel_rfl
  i106 := by kernel_rfl
  i108 := by kernel_rfl
  i109 := by kernel_rfl
  i110 := by kernel_rfl
  i111 := by kernel_rfl
  i112 := by kernel_rfl
  i127 := by kernel_rfl
  i128 := by kernel_rfl
theorem laid_met (os : Os) : laidMet Tryd.prog Rows.movesFindsRow.laid ((laidWorld os).forCall (fun _ _ => 0) ⟨#[], #[.agg #[.slice none 0 0, .slice none 0 0, .slice none 0 0, .slice none 0 0], .string .empty, .string .empty, .int .i64 0], []⟩).memory :=
  laidMet_of_run' 8 (by kernel_rfl) (by kernel_rfl)
theorem reads (os : Os) {H : Type} (enc : TypeId × Value → H) : ∃ places, DataW.whole enc Tryd.prog ((laidWorld os).forCall (fun _ _ => 0) ⟨#[], #[.agg #[.slice none 0 0, .slice none 0 0, .slice none 0 0, .slice none 0 0], .string .empty, .string .empty, .int .i64 0], []⟩).memory Tryd.f11.params.toList Rows.movesFindsSpec.vars false #[.agg #[.slice none 0 0, .slice none 0 0, .slice none 0 0, .slice none 0 0], .string .empty, .string .empty, .int .i64 0].toList 8 = some ([.agg [.nil, .agg [.nil], .nil, .nil], .lit (.string []), .lit (.string []), .lit (.int .i64 0)], [], places) :=
  ⟨[], by kernel_rfl⟩
set_option maxRecDepth 100000 in
theorem movesFinds_lifted (os : Os) (started : os.Started) (H : Type) (enc : TypeId × Value → H) (F : Stop.Interp) :
    ReturnsInHanded {} Tryd.checked os 11 .any ((OpenSpec.ofChange Rows.movesFindsSpec).preRow enc Tryd.prog Tryd.f11 Rows.movesFindsRow.domain false Rows.movesFindsRow.laid) (((OpenSpec.ofChange Rows.movesFindsSpec).at F).post enc Tryd.prog Tryd.f11 false true false false) := by
  obtain ⟨places, hx⟩ := reads os enc
  refine returnsInHanded_of_row (C := Tryd.checked) (s := (OpenSpec.ofChange Rows.movesFindsSpec)) Tryd.own started (by kernel_rfl) Tryd.func11
    (witness_row_at (enc := enc) (C := Tryd.checked) false (laidWorld os) #[.agg #[.slice none 0 0, .slice none 0 0, .slice none 0 0, .slice none 0 0], .string .empty, .string .empty, .int .i64 0] rfl (by kernel_rfl) (by kernel_rfl) (by kernel_rfl)
      (OpenSpec.preRow_of_cond 8 hx (by kernel_rfl) (fun k hk => by cases hk) (by kernel_rfl) (laid_met os))) ?_
  intro W base args ds gs before hval hW _ hk hwt _ _ _
  refine Go.GB.law_ok (s := Rows.movesFindsSpec) [3, 4, 9, 23, 28, 30, 36, 38, 39, 40, 41, 42, 44, 51, 53, 62, 63, 68, 70, 77, 88, 90, 92, 95, 97, 125] (by kernel_rfl) Tryd.laidOut (by kernel_rfl) (by kernel_rfl) Tryd.underlying4 rfl (fun ds h => ?_) W base args ds gs before hval hW hwt (fun vs h => ?_)
  · have h : ds.length = 4 := h.trans (by kernel_rfl)
    obtain ⟨a, b, c, d, rfl⟩ := Go.GB.len4 h; rfl
  · rw [Tryd.params11] at h
    have g0 := h; clear h
    obtain ⟨xs1, r, rfl, k1, g1⟩ := g0.cons_inv (m := 14) (sh := Go.GB.C23.superSh) Tryd.sp (by kernel_rfl)
    obtain ⟨a1, b1, x1, y1, rfl, ⟨i1, j1⟩, m1, q1⟩ := Go.GB.C23.super_sh0 k1
    obtain ⟨xs2, r, rfl, k2, g2⟩ := g1.cons_inv (m := 14) (sh := [.str]) Tryd.sp (by kernel_rfl)
    obtain ⟨s2, rfl, j2⟩ := Go.GB.C23.str_sh1 k2
    obtain ⟨xs3, r, rfl, k3, g3⟩ := g2.cons_inv (m := 14) (sh := [.str]) Tryd.sp (by kernel_rfl)
    obtain ⟨s3, rfl, j3⟩ := Go.GB.C23.str_sh1 k3
    obtain ⟨xs4, r, rfl, k4, g4⟩ := g3.cons_inv (m := 14) (sh := [.int .i64]) Tryd.sp (by kernel_rfl)
    obtain ⟨n4, rfl⟩ := Go.GB.C23.int_sh0 k4
    obtain rfl := g4.nil_inv
    rw [Go.GB.argV_agg (by kernel_rfl), Go.GB.argV_one (by kernel_rfl), Go.GB.argV_one (by kernel_rfl), Go.GB.argV_one (by kernel_rfl)]
    exact Go.GB.C23.finds25_ok Tryd.pr25 a1 b1 x1 y1 i1 j1 m1 (fun j h => ⟨(q1 j h).1, (q1 j h).2⟩) s2 s3 n4
set_option maxRecDepth 100000 in
set_option maxHeartbeats 4000000 in
theorem movesFinds_closed : joinedFacts Tryd.prog 11 Tryd.f11 (OpenSpec.ofChange Rows.movesFindsSpec).bare Rows.movesFindsRow = true := by
  unfold joinedFacts
  repeat' (with_reducible refine andT ?_ ?_)
  all_goals as_aux_lemma => kernel_rfl
theorem movesFinds_said : Rows.MovesFindsSaid :=
  OpenClaim.holds_of_cond 11 Tryd.f11 rfl rfl rfl rfl rfl rfl rfl ⟨rfl, rfl, rfl, rfl, rfl⟩ rfl rfl rfl rfl rfl (by kernel_rfl) Tryd.func11 movesFinds_closed
    (of_decide_eq_true (by kernel_rfl)) (by unfold Func.isWrapper; first | (rw [if_pos (by decide +kernel)]; kernel_rfl) | (rw [if_neg (by decide +kernel)]; exact ⟨rfl, rfl⟩))
    (fun os started H enc _ F => by rw [OpenClaim.pre_eq_preRow]; exact movesFinds_lifted os started H enc F)
theorem movesFinds_plain (f : FuncId) (fn : Func) (hf : Tryd.pinned.checked.prog.funcNamed "supergraph/supergraphlaw25.MovesFinds" = some f) (hfn : Tryd.pinned.checked.prog.funcs[f]? = some fn) :
    false = Tryd.pinned.checked.prog.looks [] ∧ ∀ (j : Nat) t, fn.params[j]? = some t → Tryd.pinned.checked.prog.wantsStandIn t = false := by
  obtain rfl : f = 11 := Option.some.inj ((show Tryd.prog.funcNamed "supergraph/supergraphlaw25.MovesFinds" = some 11 by kernel_rfl).symm.trans hf) |>.symm
  obtain rfl : fn = Tryd.f11 := (Option.some.inj (Tryd.func11.symm.trans hfn)).symm
  refine ⟨by kernel_rfl, fun j t ht => ?_⟩
  have hall : (Tryd.f11.params.toList.all fun t => !Tryd.prog.wantsStandIn t) = true := by kernel_rfl
  have h1 := List.all_eq_true.1 hall t (Array.mem_toList_iff.2 (Array.mem_of_getElem? ht))
  have h2 : Tryd.prog.wantsStandIn t = false := by simpa using h1
  exact h2
theorem movesFinds_holds : Rows.MovesFindsCardSaid :=
  Claim7.holds_tied_plain_at .later [] _ _ _ _ movesFinds_said (fun _ h => by cases h) (by kernel_rfl) (fun _ h => by cases h) movesFinds_row_tie rfl ⟨rfl, rfl⟩ (by kernel_rfl) rfl movesFinds_plain (by kernel_rfl)

end Go.Proofs.YtjbpmfglccfkaaaDoor
