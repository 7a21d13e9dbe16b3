/-
  YtjbpmfglccfkaaaGreatDoorJoin: a law of this seat returns true for every input of bulk at most 1048576, each argument reads as it read; the listed variables start as the program's text lays them.
-/
import Derived.Test.YtjbpmfglccfkaaaGreatDoorCards
import Derived.Test.YtjbpmfglccfkaaaGreatDoorTie
import Derived.Test.YtjbpmfglccfkaaaGreatDoorP8
import Derived.Test.YtjbpmfglccfkaaaGreatDoorP7
import Derived.WalkKit
import Derived.ProofKit
import Derived.OpenShut
import Derived.Deep.DeepHandedRow
namespace Go.Proofs.YtjbpmfglccfkaaaGreatDoor
open Go.ChangeShapes Go.WideShapes Go.ChangeAt Go.RowKit
set_option linter.unusedVariables false
set_option linter.unusedSimpArgs false

theorem Tryz.own : ownKnob Tryz.prog.godebug = none := by kernel_rfl
theorem Tryz.laidOut : laidOutB Tryz.prog = true := by kernel_rfl
theorem andT {a b : Bool} (h : a = true) (k : b = true) : (a && b) = true := by rw [h, k]; rfl
noncomputable def laidW0 (os : Os) : World :=
  { World.holding Tryz.prog os ⟨#[], #[], []⟩ with heap := (World.holding Tryz.prog os ⟨#[], #[], []⟩).heap.modify 1 fun
      | .cells _ t frozen => .cells (Go.Pinned.utf8FirstZ.map fun (n : Nat) => Value.int .u8 (n : Int)).toArray t frozen
      | o => o }
noncomputable def laidWorld (os : Os) : World :=
  { laidW0 os with heap := (laidW0 os).heap.modify 2 fun
      | .cells _ t frozen => .cells (([128, 191, 160, 191, 128, 159, 144, 191, 128, 143, 0, 0, 0, 0, 0, 0, 0, 0, 0, 0, 0, 0, 0, 0, 0, 0, 0, 0, 0, 0, 0, 0] : List Nat).map fun (n : Nat) => Value.int .u8 (n : Int)).toArray t frozen
      | o => o }

theorem Tryz.bulkAll {H : Type} : ∀ l : List (DataW H), Rows.uptoBulkAll l = (l.map Rows.uptoBulk).sum
  | [] => by simp [Rows.uptoBulkAll]
  | x :: r => by simp only [Rows.uptoBulkAll, List.map_cons, List.sum_cons, Tryz.bulkAll r]
theorem Tryz.bulk {H : Type} : Go.GB.Bulk (H := H) Rows.uptoBulk where
  lit := fun l => by cases l <;> simp [Rows.uptoBulk]
  str := fun bs => by simp [Rows.uptoBulk]
  nil := by simp [Rows.uptoBulk]
  slice := fun e s => by simp only [Rows.uptoBulk, Tryz.bulkAll]; omega
  agg := fun ps => by simp only [Rows.uptoBulk, Tryz.bulkAll]; omega

theorem Tryz.sp : ∀ e i n xs, Go.GB.spV 89 e = some i → xs.length * Tryz.prog.bytesOf e ≤ reachBytes → xs.length ≤ maxLen → (∀ c ∈ xs, Go.GB.WT Tryz.prog n e c) → Go.GB.YA i (.lst xs) :=
  Go.GB.C11.spV_ok (by kernel_rfl) (by kernel_rfl)

theorem Tryz.pr : Go.GB.C11.Pr Tryz.prog where
  mixed := by kernel_rfl
  i13 := by kernel_rfl
  i33 := by kernel_rfl
  i58 := by kernel_rfl
  i66 := by kernel_rfl
  i54 := by kernel_rfl
  i45 := by kernel_rfl
  i101 := by kernel_rfl
  i29 := by kernel_rfl
  i30 := by kernel_rfl
  i31 := by kernel_rfl
  i32 := by kernel_rfl
  i92 := by kernel_rfl
  i38 := by kernel_rfl
  i64 := by kernel_rfl
  i108 := by kernel_rfl
  i109 := by kernel_rfl
  i55 := by kernel_rfl
  i56 := by kernel_rfl
  i57 := by kernel_rfl
  i59 := by kernel_rfl
  i60 := by kernel_rfl
  i61 := by kernel_rfl
  i86 := by kernel_rfl
  i87 := by kernel_rfl
  i88 := by kernel_rfl
  i77 := by kernel_rfl
  i102 := by kernel_rfl
  i103 := by kernel_rfl
theorem Tryz.pr23 : Go.GB.C23.Pr23 Tryz.prog where
  toPr := Tryz.pr
  i48 := by kernel_rfl
  i85 := by kernel_rfl
  i14 := by kernel_rfl
  i25 := by kernel_rfl
  i47 := by kernel_rfl
  i53 := by kernel_rfl
  i21 := by kernel_rfl
  i51 := by kernel_rfl
  i73 := by kernel_rfl
  i74 := by kernel_rfl
  i75 := by kernel_rfl
  i100 := by kernel_rfl
  i34 := by kernel_rfl
  i35 := by kernel_rfl
  i36 := by kernel_rfl
  i72 := by kernel_rfl
  i84 := by kernel_rfl
  i95 := by kernel_rfl
  i96 := by kernel_rfl
  i62 := by kernel_rfl
  i63 := by kernel_rfl
  i105 := by kernel_rfl
  i106 := by kernel_rfl
  i107 := by kernel_rfl
  i89 := by kernel_rfl
  i90 := by kernel_rfl
  i91 := by kernel_rfl
  i113 := by kernel_rfl
  i115 := by kernel_rfl
theorem Tryz.pr25 : Go.GB.C23.Pr25 Tryz.prog where
  toPr23 := Tryz.pr23
  i4 := by kernel_rfl
  i5 := by kernel_rfl
  i6 := by kernel_rfl
  i7 := by kernel_rfl
  i16 := by kernel_rfl
  i17 := by kernel_rfl
  i28 := by kernel_rfl
  i27 := by kernel_rfl
  i12 := by kernel_rfl
  i15 := by kernel_rfl
  i18 := by kernel_rfl
  i19 := by kernel_rfl
  i20 := by kernel_rfl
  i22 := by kernel_rfl
  i37 := by kernel_rfl
  i39 := by kernel_rfl
  i40 := by kernel_rfl
  i41 := by kernel_rfl
  i42 := by kernel_rfl
  i43 := by kernel_rfl
  i44 := by kernel_rfl
  i46 := by kernel_rfl
  i65 := by kernel_rfl
  i67 := by kernel_rfl
  i68 := by kernel_rfl
  i69 := by kernel_rfl
  i70 := by kernel_rfl
  i71 := by kernel_rfl
  i93 := by kernel_rfl
  i94 := by kernel_rfl
theorem Tryz.prz : Go.GB.C23.PrZ Tryz.prog where
  toPr25 := Tryz.pr25
  i3 := by kernel_rfl
  i8 := by kernel_rfl
  i9 := by kernel_rfl
  i10 := by kernel_rfl
  i11 := by kernel_rfl
  i23 := by kernel_rfl
  i24 := by kernel_rfl
  i26 := by kernel_rfl
  i49 := by kernel_rfl
  i50 := by kernel_rfl
  i52 := by kernel_rfl
  i76 := by kernel_rfl
  i78 := by kernel_rfl
  i79 := by kernel_rfl
  i80 := by kernel_rfl
  i81 := by kernel_rfl
  i82 := by kernel_rfl
  i83 := by kernel_rfl
  i97 := by kernel_rfl
  i98 := by kernel_rfl
  i99 := by kernel_rfl
theorem laid_met (os : Os) : laidMet Tryz.prog Rows.movesJoinsUptoRow.laid ((laidWorld os).forCall (fun _ _ => 0) ⟨#[], #[.slice none 0 0], []⟩).memory :=
  laidMet_of_run' 8 (by kernel_rfl) (by kernel_rfl)
theorem reads (os : Os) {H : Type} (enc : TypeId × Value → H) : ∃ places, DataW.whole enc Tryz.prog ((laidWorld os).forCall (fun _ _ => 0) ⟨#[], #[.slice none 0 0], []⟩).memory Tryz.f3.params.toList Rows.movesJoinsSpec.vars false #[.slice none 0 0].toList 8 = some ([.nil], [], places) :=
  ⟨[], by kernel_rfl⟩
set_option maxRecDepth 100000 in
theorem movesJoins_lifted (os : Os) (started : os.Started) (H : Type) (enc : TypeId × Value → H) (F : Stop.Interp) :
    ReturnsInHanded {} Tryz.checked os 3 .any ((Rows.OpenSpec.upto Rows.movesJoinsSpec).preRow enc Tryz.prog Tryz.f3 Rows.movesJoinsUptoRow.domain false Rows.movesJoinsUptoRow.laid) (((Rows.OpenSpec.upto Rows.movesJoinsSpec).at F).post enc Tryz.prog Tryz.f3 false true false false) := by
  obtain ⟨places, hx⟩ := reads os enc
  refine returnsInHanded_of_row (C := Tryz.checked) (s := (Rows.OpenSpec.upto Rows.movesJoinsSpec)) Tryz.own started (by kernel_rfl) Tryz.func3
    (witness_row_at (enc := enc) (C := Tryz.checked) false (laidWorld os) #[.slice none 0 0] rfl (by kernel_rfl) (by kernel_rfl) (by kernel_rfl)
      (OpenSpec.preRow_of_cond 8 hx (by kernel_rfl) (fun k hk => by cases hk; kernel_rfl) (by kernel_rfl) (laid_met os))) ?_
  intro W base args ds gs before hval hW _ hk hwt _ _ _
  have hk1 : Rows.uptoBulkAll (ds ++ gs) ≤ 1048576 := of_decide_eq_true (hk _ rfl)
  rw [Tryz.bulkAll, List.map_append, List.sum_append] at hk1
  refine Go.GB.law_okB (N := 1048576) Tryz.bulk (s := Rows.movesJoinsSpec) [3, 4, 9, 22, 34, 36, 38, 42, 57, 58, 59, 60, 62, 67, 69, 71, 87, 89, 91, 93, 94, 96, 121] (by kernel_rfl) Tryz.laidOut (by kernel_rfl) (by kernel_rfl) Tryz.underlying4 rfl (fun ds h => ?_) W base args ds gs before hval hW hwt (by omega) (fun vs h hb => ?_)
  · have h : ds.length = 1 := h.trans (by kernel_rfl)
    obtain ⟨a, rfl⟩ := Go.GB.len1 h; rfl
  · rw [Tryz.params3] at h
    have g0 := h; clear h
    obtain ⟨xs1, r, rfl, k1, g1⟩ := g0.cons_inv (m := 20) (sh := [.lst 40 Go.GB.C23.graphSh]) Tryz.sp (by kernel_rfl)
    obtain ⟨l1, rfl, j1, m1⟩ := Go.GB.C23.graphs_sh0 k1
    obtain rfl := g1.nil_inv
    rw [Go.GB.argV_one (by kernel_rfl)] at hb ⊢
    exact Go.GB.C23.joins25_ok Tryz.prz l1 ⟨m1, (by simp [Go.GB.vb, Go.GB.vbs, Go.GB.T.bulk] at hb; omega)⟩
set_option maxRecDepth 100000 in
set_option maxHeartbeats 4000000 in
theorem movesJoins_closed : joinedFacts Tryz.prog 3 Tryz.f3 (Rows.OpenSpec.upto Rows.movesJoinsSpec).bare Rows.movesJoinsUptoRow = true := by
  unfold joinedFacts
  repeat' (with_reducible refine andT ?_ ?_)
  all_goals as_aux_lemma => kernel_rfl
theorem movesJoins_said : Rows.MovesJoinsUptoSaid :=
  OpenClaim.holds_of_cond 3 Tryz.f3 rfl rfl rfl rfl rfl rfl rfl ⟨rfl, rfl, rfl, rfl, rfl⟩ rfl rfl rfl rfl rfl (by kernel_rfl) Tryz.func3 movesJoins_closed
    (of_decide_eq_true (by kernel_rfl)) (by unfold Func.isWrapper; first | (rw [if_pos (by decide +kernel)]; kernel_rfl) | (rw [if_neg (by decide +kernel)]; exact ⟨rfl, rfl⟩))
    (fun os started H enc _ F => by rw [OpenClaim.pre_eq_preRow]; exact movesJoins_lifted os started H enc F)
theorem movesJoins_plain (f : FuncId) (fn : Func) (hf : Tryz.pinned.checked.prog.funcNamed "supergraph/supergraphlaw25.MovesJoins" = some f) (hfn : Tryz.pinned.checked.prog.funcs[f]? = some fn) :
    false = Tryz.pinned.checked.prog.looks [] ∧ ∀ (j : Nat) t, fn.params[j]? = some t → Tryz.pinned.checked.prog.wantsStandIn t = false := by
  obtain rfl : f = 3 := Option.some.inj ((show Tryz.prog.funcNamed "supergraph/supergraphlaw25.MovesJoins" = some 3 by kernel_rfl).symm.trans hf) |>.symm
  obtain rfl : fn = Tryz.f3 := (Option.some.inj (Tryz.func3.symm.trans hfn)).symm
  refine ⟨by kernel_rfl, fun j t ht => ?_⟩
  have hall : (Tryz.f3.params.toList.all fun t => !Tryz.prog.wantsStandIn t) = true := by kernel_rfl
  have h1 := List.all_eq_true.1 hall t (Array.mem_toList_iff.2 (Array.mem_of_getElem? ht))
  have h2 : Tryz.prog.wantsStandIn t = false := by simpa using h1
  exact h2
theorem movesJoins_holds : Rows.MovesJoinsUptoCardSaid :=
  Claim7.holds_tied_plain_at .later [] _ _ _ _ movesJoins_said (fun _ h => by cases h) (by kernel_rfl) (fun _ h => by cases h) movesJoinsUpto_row_tie rfl ⟨rfl, rfl⟩ (by kernel_rfl) rfl movesJoins_plain (by kernel_rfl)

end Go.Proofs.YtjbpmfglccfkaaaGreatDoor
