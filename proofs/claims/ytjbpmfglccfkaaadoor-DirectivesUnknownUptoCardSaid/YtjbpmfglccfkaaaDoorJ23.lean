/-
  YtjbpmfglccfkaaaDoorJoin: a law of this seat returns true for every input of bulk at most 1048576, each argument reads as it read; the listed variables start as the program's text lays them.
-/
import Derived.Test.YtjbpmfglccfkaaaDoorCards
import Derived.Test.YtjbpmfglccfkaaaDoorTie
import Derived.Test.YtjbpmfglccfkaaaDoorP6
import Derived.WalkKit
import Derived.ProofKit
import Derived.OpenShut
import Derived.Deep.DeepHandedRow
namespace Go.Proofs.YtjbpmfglccfkaaaDoor
open Go.ChangeShapes Go.WideShapes Go.ChangeAt Go.RowKit
set_option linter.unusedVariables false
set_option linter.unusedSimpArgs false

theorem Tryd.own : ownKnob Tryd.prog.godebug = none := by kernel_rfl
theorem Tryd.laidOut : laidOutB Tryd.prog = true := by kernel_rfl
theorem andT {a b : Bool} (h : a = true) (k : b = true) : (a && b) = true := by rw [h, k]; rfl
noncomputable def laidW0 (os : Os) : World :=
  { World.holding Tryd.prog os ⟨#[], #[], []⟩ with heap := (World.holding Tryd.prog os ⟨#[], #[], []⟩).heap.modify 1 fun
      | .cells _ t frozen => .cells (Go.Pinned.utf8FirstZ.map fun (n : Nat) => Value.int .u8 (n : Int)).toArray t frozen
      | o => o }
noncomputable def laidWorld (os : Os) : World :=
  { laidW0 os with heap := (laidW0 os).heap.modify 2 fun
      | .cells _ t frozen => .cells (([128, 191, 160, 191, 128, 159, 144, 191, 128, 143, 0, 0, 0, 0, 0, 0, 0, 0, 0, 0, 0, 0, 0, 0, 0, 0, 0, 0, 0, 0, 0, 0] : List Nat).map fun (n : Nat) => Value.int .u8 (n : Int)).toArray t frozen
      | o => o }

theorem Tryd.bulkAll {H : Type} : ∀ l : List (DataW H), Rows.uptoBulkAll l = (l.map Rows.uptoBulk).sum
  | [] => by simp [Rows.uptoBulkAll]
  | x :: r => by simp only [Rows.uptoBulkAll, List.map_cons, List.sum_cons, Tryd.bulkAll r]
theorem Tryd.bulk {H : Type} : Go.GB.Bulk (H := H) Rows.uptoBulk where
  lit := fun l => by cases l <;> simp [Rows.uptoBulk]
  str := fun bs => by simp [Rows.uptoBulk]
  nil := by simp [Rows.uptoBulk]
  slice := fun e s => by simp only [Rows.uptoBulk, Tryd.bulkAll]; omega
  agg := fun ps => by simp only [Rows.uptoBulk, Tryd.bulkAll]; omega

theorem Tryd.sp : ∀ e i n xs, Go.GB.spV 53 e = some i → xs.length * Tryd.prog.bytesOf e ≤ reachBytes → xs.length ≤ maxLen → (∀ c ∈ xs, Go.GB.WT Tryd.prog n e c) → Go.GB.YA i (.lst xs) :=
  Go.GB.C11.spV_ok (by kernel_rfl) (by kernel_rfl)

theorem Tryd.pr : Go.GB.C11.Pr Tryd.prog where
  mixed := by kernel_rfl
  i15 := by kernel_rfl
  i16 := by kernel_rfl
  i126 := by kernel_rfl

theorem Tryd.pr23 : Go.GB.C23.Pr23 Tryd.prog where
  toPr := Tryd.pr
  i3 := by kernel_rfl
  i4 := by kernel_rfl
  i5 := by kernel_rfl
  i12 := by kernel_rfl
  i13 := by kernel_rfl
  i17 := by kernel_rfl
  i19 := by kernel_rfl
  i25 := by kernel_rfl
  i46 := by kernel_rfl
  i47 := by kernel_rfl
  i48 := by kernel_rfl
  i52 := by kernel_rfl
  i56 := by kernel_rfl
  i57 := by kernel_rfl
  i69 := by kernel_rfl
  i70 := by kernel_rfl
  i73 := by kernel_rfl
  i89 := by kernel_rfl
  i90 := by kernel_rfl
  i91 := by kernel_rfl
  i92 := by kernel_rfl
  i93 := by kernel_rfl
  i116 := by kernel_rfl
  i117 := by kernel_rfl
  i118 := by kernel_rfl
  i119 := by kernel_rfl
  i120 := by kernel_rfl
  i121 := by kernel_rfl
  i130 := by kernel_rfl
theorem laid_met (os : Os) : laidMet Tryd.prog Rows.directivesUnknownUptoRow.laid ((laidWorld os).forCall (fun _ _ => 0) ⟨#[], #[.agg #[.slice none 0 0], .int .i64 0, .string .empty], []⟩).memory :=
  laidMet_of_run' 8 (by kernel_rfl) (by kernel_rfl)
theorem reads (os : Os) {H : Type} (enc : TypeId × Value → H) : ∃ places, DataW.whole enc Tryd.prog ((laidWorld os).forCall (fun _ _ => 0) ⟨#[], #[.agg #[.slice none 0 0], .int .i64 0, .string .empty], []⟩).memory Tryd.f5.params.toList Rows.directivesUnknownSpec.vars false #[.agg #[.slice none 0 0], .int .i64 0, .string .empty].toList 8 = some ([.agg [.nil], .lit (.int .i64 0), .lit (.string [])], [], places) :=
  ⟨[], by kernel_rfl⟩
set_option maxRecDepth 100000 in
theorem directivesUnknown_lifted (os : Os) (started : os.Started) (H : Type) (enc : TypeId × Value → H) (F : Stop.Interp) :
    ReturnsInHanded {} Tryd.checked os 5 .any ((Rows.OpenSpec.upto Rows.directivesUnknownSpec).preRow enc Tryd.prog Tryd.f5 Rows.directivesUnknownUptoRow.domain false Rows.directivesUnknownUptoRow.laid) (((Rows.OpenSpec.upto Rows.directivesUnknownSpec).at F).post enc Tryd.prog Tryd.f5 false true false false) := by
  obtain ⟨places, hx⟩ := reads os enc
  refine returnsInHanded_of_row (C := Tryd.checked) (s := (Rows.OpenSpec.upto Rows.directivesUnknownSpec)) Tryd.own started (by kernel_rfl) Tryd.func5
    (witness_row_at (enc := enc) (C := Tryd.checked) false (laidWorld os) #[.agg #[.slice none 0 0], .int .i64 0, .string .empty] rfl (by kernel_rfl) (by kernel_rfl) (by kernel_rfl)
      (OpenSpec.preRow_of_cond 8 hx (by kernel_rfl) (fun k hk => by cases hk; kernel_rfl) (by kernel_rfl) (laid_met os))) ?_
  intro W base args ds gs before hval hW _ hk hwt _ _ _
  have hk1 : Rows.uptoBulkAll (ds ++ gs) ≤ 1048576 := of_decide_eq_true (hk _ rfl)
  rw [Tryd.bulkAll, List.map_append, List.sum_append] at hk1
  refine Go.GB.law_okB (N := 1048576) Tryd.bulk (s := Rows.directivesUnknownSpec) [3, 4, 9, 23, 28, 30, 36, 38, 39, 40, 41, 42, 44, 51, 53, 88, 90, 92, 95, 97, 125] (by kernel_rfl) Tryd.laidOut (by kernel_rfl) (by kernel_rfl) Tryd.underlying4 rfl (fun ds h => ?_) W base args ds gs before hval hW hwt (by omega) (fun vs h hb => ?_)
  · have h : ds.length = 3 := h.trans (by kernel_rfl)
    obtain ⟨a, b, c, rfl⟩ := Go.GB.len3 h; rfl
  · rw [Tryd.params5] at h
    have g0 := h; clear h
    obtain ⟨xs1, r, rfl, k1, g1⟩ := g0.cons_inv (m := 20) (sh := Go.GB.docSh) Tryd.sp (by kernel_rfl)
    obtain ⟨d1, rfl, j1⟩ := Go.GB.doc_sh0 k1
    obtain ⟨xs2, r, rfl, k2, g2⟩ := g1.cons_inv (m := 20) (sh := [.int .i64]) Tryd.sp (by kernel_rfl)
    obtain ⟨n2, rfl⟩ := Go.GB.C23.int_sh0 k2
    obtain ⟨xs3, r, rfl, k3, g3⟩ := g2.cons_inv (m := 20) (sh := [.str]) Tryd.sp (by kernel_rfl)
    obtain ⟨s3, rfl, j3⟩ := Go.GB.C23.str_sh1 k3
    obtain rfl := g3.nil_inv
    rw [Go.GB.argV_agg (by kernel_rfl), Go.GB.argV_one (by kernel_rfl), Go.GB.argV_one (by kernel_rfl)] at hb ⊢
    exact Go.GB.C23.unknown23U_ok Tryd.pr23 d1 j1 (by simp [Go.GB.vb, Go.GB.vbs, Go.GB.T.bulk] at hb; omega) n2 s3 j3
set_option maxRecDepth 100000 in
set_option maxHeartbeats 4000000 in
theorem directivesUnknown_closed : joinedFacts Tryd.prog 5 Tryd.f5 (Rows.OpenSpec.upto Rows.directivesUnknownSpec).bare Rows.directivesUnknownUptoRow = true := by
  unfold joinedFacts
  repeat' (with_reducible refine andT ?_ ?_)
  all_goals as_aux_lemma => kernel_rfl
theorem directivesUnknown_said : Rows.DirectivesUnknownUptoSaid :=
  OpenClaim.holds_of_cond 5 Tryd.f5 rfl rfl rfl rfl rfl rfl rfl ⟨rfl, rfl, rfl, rfl, rfl⟩ rfl rfl rfl rfl rfl (by kernel_rfl) Tryd.func5 directivesUnknown_closed
    (of_decide_eq_true (by kernel_rfl)) (by unfold Func.isWrapper; first | (rw [if_pos (by decide +kernel)]; kernel_rfl) | (rw [if_neg (by decide +kernel)]; exact ⟨rfl, rfl⟩))
    (fun os started H enc _ F => by rw [OpenClaim.pre_eq_preRow]; exact directivesUnknown_lifted os started H enc F)
theorem directivesUnknown_plain (f : FuncId) (fn : Func) (hf : Tryd.pinned.checked.prog.funcNamed "supergraph/supergraphlaw23.DirectivesUnknown" = some f) (hfn : Tryd.pinned.checked.prog.funcs[f]? = some fn) :
    false = Tryd.pinned.checked.prog.looks [] ∧ ∀ (j : Nat) t, fn.params[j]? = some t → Tryd.pinned.checked.prog.wantsStandIn t = false := by
  obtain rfl : f = 5 := Option.some.inj ((show Tryd.prog.funcNamed "supergraph/supergraphlaw23.DirectivesUnknown" = some 5 by kernel_rfl).symm.trans hf) |>.symm
  obtain rfl : fn = Tryd.f5 := (Option.some.inj (Tryd.func5.symm.trans hfn)).symm
  refine ⟨by kernel_rfl, fun j t ht => ?_⟩
  have hall : (Tryd.f5.params.toList.all fun t => !Tryd.prog.wantsStandIn t) = true := by kernel_rfl
  have h1 := List.all_eq_true.1 hall t (Array.mem_toList_iff.2 (Array.mem_of_getElem? ht))
  have h2 : Tryd.prog.wantsStandIn t = false := by simpa using h1
  exact h2
theorem directivesUnknown_holds : Rows.DirectivesUnknownUptoCardSaid :=
  Claim7.holds_tied_plain_at .later [] _ _ _ _ directivesUnknown_said (fun _ h => by cases h) (by kernel_rfl) (fun _ h => by cases h) directivesUnknownUpto_row_tie rfl ⟨rfl, rfl⟩ (by kernel_rfl) rfl directivesUnknown_plain (by kernel_rfl)

end Go.Proofs.YtjbpmfglccfkaaaDoor
