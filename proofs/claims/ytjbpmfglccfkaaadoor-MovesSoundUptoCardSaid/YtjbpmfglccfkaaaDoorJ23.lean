/-
  YtjbpmfglccfkaaaDoorJoin: a law of this seat returns true for every input of bulk at most 1048576, each argument reads as it read; the listed variables start as the program's text lays them.
-/
import Derived.Test.YtjbpmfglccfkaaaDoorCards
import Derived.Test.YtjbpmfglccfkaaaDoorTie
import Derived.Test.YtjbpmfglccfkaaaDoorP8
import Derived.Test.YtjbpmfglccfkaaaDoorP4
import Derived.WalkKit
import Derived.ProofKit
import Derived.OpenShut
import Derived.Deep.DeepHandedRow
namespace Go.Proofs.YtjbpmfglccfkaaaDoor
open Go.ChangeShapes Go.WideShapes Go.ChangeAt Go.RowKit
set_option linter.unusedVariables false
set_option linter.unusedSimpArgs false

theorem Tryd.own : ownKnob Tryd.prog.godebug = none := by kernel_rfl
theorem Tryd.laidOut : laidOutB Tryd.prog = true := by kernel_rfl
theorem andT {a b : Bool} (h : a = true) (k : b = true) : (a && b) = true := by rw [h, k]; rfl
noncomputable def laidW0 (os : Os) : World :=
  { World.holding Tryd.prog os ⟨#[], #[], []⟩ with heap := (World.holding Tryd.prog os ⟨#[], #[], []⟩).heap.modify 1 fun
      | .cells _ t frozen => .cells (Go.Pinned.utf8FirstZ.map fun (n : Nat) => Value.int .u8 (n : Int)).toArray t frozen
      | o => o }
noncomputable def laidWorld (os : Os) : World :=
  { laidW0 os with heap := (laidW0 os).heap.modify 2 fun
      | .cells _ t frozen => .cells (([128, 191, 160, 191, 128, 159, 144, 191, 128, 143, 0, 0, 0, 0, 0, 0, 0, 0, 0, 0, 0, 0, 0, 0, 0, 0, 0, 0, 0, 0, 0, 0] : List Nat).map fun (n : Nat) => Value.int .u8 (n : Int)).toArray t frozen
      | o => o }

theorem Tryd.bulkAll {H : Type} : ∀ l : List (DataW H), Rows.uptoBulkAll l = (l.map Rows.uptoBulk).sum
  | [] => by simp [Rows.uptoBulkAll]
  | x :: r => by simp only [Rows.uptoBulkAll, List.map_cons, List.sum_cons, Tryd.bulkAll r]
theorem Tryd.bulk {H : Type} : Go.GB.Bulk (H := H) Rows.uptoBulk where
  lit := fun l => by cases l <;> simp [Rows.uptoBulk]
  str := fun bs => by simp [Rows.uptoBulk]
  nil := by simp [Rows.uptoBulk]
  slice := fun e s => by simp only [Rows.uptoBulk, Tryd.bulkAll]; omega
  agg := fun ps => by simp only [Rows.uptoBulk, Tryd.bulkAll]; omega

theorem Tryd.sp : ∀ e i n xs, Go.GB.spV 53 e = some i → xs.length * Tryd.prog.bytesOf e ≤ reachBytes → xs.length ≤ maxLen → (∀ c ∈ xs, Go.GB.WT Tryd.prog n e c) → Go.GB.YA i (.lst xs) :=
  Go.GB.C11.spV_ok (by kernel_rfl) (by kernel_rfl)

theorem Tryd.pr : Go.GB.C11.Pr Tryd.prog where
  mixed := by kernel_rfl
  i59 := by kernel_rfl
  i80 := by kernel_rfl
  i101 := by kernel_rfl
  i107 := by kernel_rfl
  i97 := by kernel_rfl
  i65 := by kernel_rfl
  i50 := by kernel_rfl
  i76 := by kernel_rfl
  i77 := by kernel_rfl
  i78 := by kernel_rfl
  i79 := by kernel_rfl
  i126 := by kernel_rfl
  i66 := by kernel_rfl
  i105 := by kernel_rfl
  i71 := by kernel_rfl
  i72 := by kernel_rfl
  i98 := by kernel_rfl
  i99 := by kernel_rfl
  i100 := by kernel_rfl
  i102 := by kernel_rfl
  i103 := by kernel_rfl
  i104 := by kernel_rfl
  i122 := by kernel_rfl
  i123 := by kernel_rfl
  i124 := by kernel_rfl
  i125 := by kernel_rfl
  i51 := by kernel_rfl
  i134 := by kernel_rfl
theorem Tryd.pr23 : Go.GB.C23.Pr23 Tryd.prog where
  toPr := Tryd.pr
  i3 := by kernel_rfl
  i4 := by kernel_rfl
  i13 := by kernel_rfl
  i14 := by kernel_rfl
  i18 := by kernel_rfl
  i19 := by kernel_rfl
  i23 := by kernel_rfl
  i25 := by kernel_rfl
  i46 := by kernel_rfl
  i47 := by kernel_rfl
  i48 := by kernel_rfl
  i49 := by kernel_rfl
  i53 := by kernel_rfl
  i54 := by kernel_rfl
  i55 := by kernel_rfl
  i56 := by kernel_rfl
  i57 := by kernel_rfl
  i69 := by kernel_rfl
  i70 := by kernel_rfl
  i74 := by kernel_rfl
  i75 := by kernel_rfl
  i89 := by kernel_rfl
  i90 := by kernel_rfl
  i91 := by kernel_rfl
  i94 := by kernel_rfl
  i95 := by kernel_rfl
  i96 := by kernel_rfl
  i116 := by kernel_rfl
  i130 := by kernel_rfl
theorem Tryd.pr25 : Go.GB.C23.Pr25 Tryd.prog where
  toPr23 := Tryd.pr23
  i8 := by kernel_rfl
  i30 := by kernel_rfl
  i31 := by kernel_rfl
  i32 := by kernel_rfl
  i33 := by kernel_rfl
  i34 := by kernel_rfl
  i35 := by kernel_rfl
  i38 := by kernel_rfl
  i40 := by kernel_rfl
  i58 := by kernel_rfl
  i60 := by kernel_rfl
  i61 := by kernel_rfl
  i62 := by kernel_rfl
  i63 := by kernel_rfl
  i64 := by kernel_rfl
  i68 := by kernel_rfl
  i81 := by kernel_rfl
  i82 := by kernel_rfl
  i83 := by kernel_rfl
  i84 := by kernel_rfl
  i85 := by kernel_rfl
  i86 := by kernel_rfl
  i87 := by kernel_rfl
  i106 := by kernel_rfl
  i108 := by kernel_rfl
  i109 := by kernel_rfl
  i110 := by kernel_rfl
  i111 := by kernel_rfl
  i112 := by kernel_rfl
  i127 := by kernel_rfl
  i128 := by kernel_rfl
theorem laid_met (os : Os) : laidMet Tryd.prog Rows.movesSoundUptoRow.laid ((laidWorld os).forCall (fun _ _ => 0) ⟨#[], #[.slice none 0 0], []⟩).memory :=
  laidMet_of_run' 8 (by kernel_rfl) (by kernel_rfl)
theorem reads (os : Os) {H : Type} (enc : TypeId × Value → H) : ∃ places, DataW.whole enc Tryd.prog ((laidWorld os).forCall (fun _ _ => 0) ⟨#[], #[.slice none 0 0], []⟩).memory Tryd.f8.params.toList Rows.movesSoundSpec.vars false #[.slice none 0 0].toList 8 = some ([.nil], [], places) :=
  ⟨[], by kernel_rfl⟩
set_option maxRecDepth 100000 in
theorem movesSound_lifted (os : Os) (started : os.Started) (H : Type) (enc : TypeId × Value → H) (F : Stop.Interp) :
    ReturnsInHanded {} Tryd.checked os 8 .any ((Rows.OpenSpec.upto Rows.movesSoundSpec).preRow enc Tryd.prog Tryd.f8 Rows.movesSoundUptoRow.domain false Rows.movesSoundUptoRow.laid) (((Rows.OpenSpec.upto Rows.movesSoundSpec).at F).post enc Tryd.prog Tryd.f8 false true false false) := by
  obtain ⟨places, hx⟩ := reads os enc
  refine returnsInHanded_of_row (C := Tryd.checked) (s := (Rows.OpenSpec.upto Rows.movesSoundSpec)) Tryd.own started (by kernel_rfl) Tryd.func8
    (witness_row_at (enc := enc) (C := Tryd.checked) false (laidWorld os) #[.slice none 0 0] rfl (by kernel_rfl) (by kernel_rfl) (by kernel_rfl)
      (OpenSpec.preRow_of_cond 8 hx (by kernel_rfl) (fun k hk => by cases hk; kernel_rfl) (by kernel_rfl) (laid_met os))) ?_
  intro W base args ds gs before hval hW _ hk hwt _ _ _
  have hk1 : Rows.uptoBulkAll (ds ++ gs) ≤ 1048576 := of_decide_eq_true (hk _ rfl)
  rw [Tryd.bulkAll, List.map_append, List.sum_append] at hk1
  refine Go.GB.law_okB (N := 1048576) Tryd.bulk (s := Rows.movesSoundSpec) [3, 4, 9, 23, 28, 30, 36, 38, 39, 40, 41, 42, 44, 51, 53, 60, 73, 88, 90, 92, 95, 97, 125] (by kernel_rfl) Tryd.laidOut (by kernel_rfl) (by kernel_rfl) Tryd.underlying4 rfl (fun ds h => ?_) W base args ds gs before hval hW hwt (by omega) (fun vs h hb => ?_)
  · have h : ds.length = 1 := h.trans (by kernel_rfl)
    obtain ⟨a, rfl⟩ := Go.GB.len1 h; rfl
  · rw [Tryd.params8] at h
    have g0 := h; clear h
    obtain ⟨xs1, r, rfl, k1, g1⟩ := g0.cons_inv (m := 20) (sh := [.lst 40 Go.GB.C23.graphSh]) Tryd.sp (by kernel_rfl)
    obtain ⟨l1, rfl, j1, m1⟩ := Go.GB.C23.graphs_sh0 k1
    obtain rfl := g1.nil_inv
    rw [Go.GB.argV_one (by kernel_rfl)] at hb ⊢
    exact Go.GB.C23.sound25_ok Tryd.pr25 l1 ⟨m1, (by simp [Go.GB.vb, Go.GB.vbs, Go.GB.T.bulk] at hb; omega)⟩
set_option maxRecDepth 100000 in
set_option maxHeartbeats 4000000 in
theorem movesSound_closed : joinedFacts Tryd.prog 8 Tryd.f8 (Rows.OpenSpec.upto Rows.movesSoundSpec).bare Rows.movesSoundUptoRow = true := by
  unfold joinedFacts
  repeat' (with_reducible refine andT ?_ ?_)
  all_goals as_aux_lemma => kernel_rfl
theorem movesSound_said : Rows.MovesSoundUptoSaid :=
  OpenClaim.holds_of_cond 8 Tryd.f8 rfl rfl rfl rfl rfl rfl rfl ⟨rfl, rfl, rfl, rfl, rfl⟩ rfl rfl rfl rfl rfl (by kernel_rfl) Tryd.func8 movesSound_closed
    (of_decide_eq_true (by kernel_rfl)) (by unfold Func.isWrapper; first | (rw [if_pos (by decide +kernel)]; kernel_rfl) | (rw [if_neg (by decide +kernel)]; exact ⟨rfl, rfl⟩))
    (fun os started H enc _ F => by rw [OpenClaim.pre_eq_preRow]; exact movesSound_lifted os started H enc F)
theorem movesSound_plain (f : FuncId) (fn : Func) (hf : Tryd.pinned.checked.prog.funcNamed "supergraph/supergraphlaw25.MovesSound" = some f) (hfn : Tryd.pinned.checked.prog.funcs[f]? = some fn) :
    false = Tryd.pinned.checked.prog.looks [] ∧ ∀ (j : Nat) t, fn.params[j]? = some t → Tryd.pinned.checked.prog.wantsStandIn t = false := by
  obtain rfl : f = 8 := Option.some.inj ((show Tryd.prog.funcNamed "supergraph/supergraphlaw25.MovesSound" = some 8 by kernel_rfl).symm.trans hf) |>.symm
  obtain rfl : fn = Tryd.f8 := (Option.some.inj (Tryd.func8.symm.trans hfn)).symm
  refine ⟨by kernel_rfl, fun j t ht => ?_⟩
  have hall : (Tryd.f8.params.toList.all fun t => !Tryd.prog.wantsStandIn t) = true := by kernel_rfl
  have h1 := List.all_eq_true.1 hall t (Array.mem_toList_iff.2 (Array.mem_of_getElem? ht))
  have h2 : Tryd.prog.wantsStandIn t = false := by simpa using h1
  exact h2
theorem movesSound_holds : Rows.MovesSoundUptoCardSaid :=
  Claim7.holds_tied_plain_at .later [] _ _ _ _ movesSound_said (fun _ h => by cases h) (by kernel_rfl) (fun _ h => by cases h) movesSoundUpto_row_tie rfl ⟨rfl, rfl⟩ (by kernel_rfl) rfl movesSound_plain (by kernel_rfl)

end Go.Proofs.YtjbpmfglccfkaaaDoor
