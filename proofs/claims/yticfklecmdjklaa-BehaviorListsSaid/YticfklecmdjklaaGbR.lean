/-
  GbR: regions whose order is drawn: what an operation does depends only on what it reads.
-/
import Derived.Test.YticfklecmdjklaaGbQ
namespace Go.GB

def Ar.slots : Ar → List Nat
  | .s t => [t]
  | .c _ => []
def Ar.slotso : Option Ar → List Nat
  | some x => x.slots
  | none => []
def arsSlots : List Ar → List Nat
  | [] => []
  | x :: r => x.slots ++ arsSlots r
def parts3Slots : List (Nat × Nat × Ar) → List Nat
  | [] => []
  | (_, _, x) :: r => x.slots ++ parts3Slots r
def parts2Slots : List (Nat × Ar) → List Nat
  | [] => []
  | (_, x) :: r => x.slots ++ parts2Slots r

def AOp.slots : AOp → List Nat
  | .cst _ => []
  | .mv x => x.slots
  | .pick c a b => c.slots ++ (a.slots ++ b.slots)
  | .un _ x => x.slots
  | .bin _ x y => x.slots ++ y.slots
  | .eqb _ x y => x.slots ++ y.slots
  | .eqp _ x => x.slots
  | .eqm _ x => x.slots
  | .conv _ x => x.slots
  | .convs x => x.slots
  | .nilck x => x.slots
  | .fa _ x => x.slots
  | .ld _ _ x => x.slots
  | .ia _ x i => x.slots ++ i.slots
  | .iarr _ _ x i => x.slots ++ i.slots
  | .ixs x i => x.slots ++ i.slots
  | .ixa _ _ _ x i => x.slots ++ i.slots
  | .len x => x.slots
  | .lens x => x.slots
  | .sls x lo hi => x.slots ++ (Ar.slotso lo ++ Ar.slotso hi)
  | .sll _ x lo hi => x.slots ++ (Ar.slotso lo ++ Ar.slotso hi)
  | .fld _ _ _ x => x.slots
  | .maxi x y => x.slots ++ y.slots
  | .mini x y => x.slots ++ y.slots
  | .build _ ps => parts3Slots ps
  | .mkfn _ caps => arsSlots caps
  | .lookup _ _ _ _ x k => x.slots ++ k.slots
  | .lenm x => x.slots
  | .st _ x v => x.slots ++ v.slots
  | .box _ x => x.slots
  | .alloc _ => []
  | .bsl _ _ _ ps => parts2Slots ps
  | .app _ _ x y => x.slots ++ y.slots
  | .ext x _ => x.slots
  | .mkmap _ _ => []
  | .mksl _ _ _ n => n.slots
  | .mupd x k v => x.slots ++ (k.slots ++ v.slots)
  | .mdel x k => x.slots ++ k.slots
  | .call _ args => arsSlots args
  | .callv x args => x.slots ++ arsSlots args

def AO.reads (ao : AO) : List Nat := (match ao.g with | some (s, _) => [s] | none => []) ++ ao.op.slots

section
variable {P : Program} {st st' : St}

theorem v_congr {x : Ar} (h : ∀ t ∈ x.slots, look st.env t = look st'.env t) : x.v st = x.v st' := by
  cases x with
  | s t => exact h t (by simp [Ar.slots])
  | c v => rfl

theorem u_congr {x : Ar} (h : ∀ t ∈ x.slots, look st.env t = look st'.env t) : x.u st = x.u st' := by unfold Ar.u; rw [v_congr h]

theorem rd_congr {gc : Bool} {x : Ar} (h : ∀ t ∈ x.slots, look st.env t = look st'.env t) : rd gc st x = rd gc st' x := by
  unfold rd; rw [v_congr h]

theorem bnd_congr {gc : Bool} {x : Option Ar} {d : Int} (h : ∀ t ∈ Ar.slotso x, look st.env t = look st'.env t) : bnd x gc st d = bnd x gc st' d := by
  cases x with
  | none => rfl
  | some x => simp only [bnd]; rw [rd_congr (st := st) (st' := st') h]

theorem fillV_congr {gc : Bool} : ∀ {ps : List (Nat × Nat × Ar)} {cs : List V}, (∀ t ∈ parts3Slots ps, look st.env t = look st'.env t) → fillV st gc cs ps = fillV st' gc cs ps
  | [], _, _ => rfl
  | (off, n, x) :: r, cs, h => by
    simp only [fillV]
    rw [rd_congr (st := st) (st' := st') (fun t ht => h t (by simp [parts3Slots, ht]))]
    have ih := fun cs => fillV_congr (gc := gc) (ps := r) (cs := cs) (fun t ht => h t (by simp [parts3Slots, ht]))
    simp only [ih]

theorem capsOf_congr : ∀ {xs : List Ar}, (∀ t ∈ arsSlots xs, look st.env t = look st'.env t) → capsOf st xs = capsOf st' xs
  | [], _ => rfl
  | x :: r, h => by
    simp only [capsOf]
    rw [v_congr (st := st) (st' := st') (fun t ht => h t (by simp [arsSlots, ht])), capsOf_congr (xs := r) (fun t ht => h t (by simp [arsSlots, ht]))]

theorem argsV_congr : ∀ {xs : List Ar}, (∀ t ∈ arsSlots xs, look st.env t = look st'.env t) → argsV st xs = argsV st' xs
  | [], _ => rfl
  | x :: r, h => by
    simp only [argsV]
    rw [u_congr (st := st) (st' := st') (fun t ht => h t (by simp [arsSlots, ht])), argsV_congr (xs := r) (fun t ht => h t (by simp [arsSlots, ht]))]

theorem pureParts_congr {sz : Nat} : ∀ {ps : List (Nat × Ar)} {xs : List (List T)}, (∀ t ∈ parts2Slots ps, look st.env t = look st'.env t) → pureParts st sz xs ps = pureParts st' sz xs ps
  | [], _, _ => rfl
  | (i, x) :: r, xs, h => by
    simp only [pureParts]
    rw [u_congr (st := st) (st' := st') (fun t ht => h t (by simp [parts2Slots, ht]))]
    have ih := fun xs => pureParts_congr (sz := sz) (ps := r) (xs := xs) (fun t ht => h t (by simp [parts2Slots, ht]))
    simp only [ih]

theorem looksE_congr {op : AOp} (h : ∀ t ∈ op.slots, look st.env t = look st'.env t) : looksE st op = looksE st' op := by
  cases op <;> simp only [looksE]
  case ld ag n x => rw [v_congr (st := st) (st' := st') (fun t ht => h t (by simp [AOp.slots, ht]))]
  case lookup a b c d x k => rw [v_congr (st := st) (st' := st') (fun t ht => h t (by simp [AOp.slots, ht]))]
  case lenm x => rw [v_congr (st := st) (st' := st') (fun t ht => h t (by simp [AOp.slots, ht]))]

theorem evalE_congr {gc : Bool} {op : AOp} (h : ∀ t ∈ op.slots, look st.env t = look st'.env t) (hs : looksE st op = false ∨ st.s.sto = st'.s.sto) : evalE gc st op = evalE gc st' op := by
  have r1 : ∀ (g : Bool) (x : Ar), (∀ t ∈ x.slots, t ∈ op.slots) → rd g st x = rd g st' x := fun g x hx => rd_congr fun t ht => h t (hx t ht)
  cases op with
  | cst v => rfl
  | mv x => simp only [evalE]; rw [r1 gc x (fun t ht => ht)]
  | pick c a b => simp only [evalE]; rw [r1 gc c (fun t ht => by simp [AOp.slots, ht])]; simp only [r1 _ a (fun t ht => by simp [AOp.slots, ht]), r1 _ b (fun t ht => by simp [AOp.slots, ht])]
  | un op x => cases op <;> simp only [evalE] <;> rw [r1 gc x (fun t ht => ht)]
  | bin op x y => simp only [evalE]; rw [r1 gc x (fun t ht => by simp [AOp.slots, ht]), r1 gc y (fun t ht => by simp [AOp.slots, ht])]
  | eqb op x y => simp only [evalE]; rw [r1 gc x (fun t ht => by simp [AOp.slots, ht]), r1 gc y (fun t ht => by simp [AOp.slots, ht])]
  | eqp op x => simp only [evalE]; rw [r1 gc x (fun t ht => ht)]
  | eqm op x => simp only [evalE]; rw [r1 gc x (fun t ht => ht)]
  | conv k x => simp only [evalE]; rw [r1 gc x (fun t ht => ht)]
  | convs x => simp only [evalE]; rw [r1 gc x (fun t ht => ht)]
  | nilck x => simp only [evalE]; rw [r1 gc x (fun t ht => ht)]
  | fa n x => simp only [evalE]; rw [r1 gc x (fun t ht => ht)]
  | ld ag n x =>
    have hv := v_congr (st := st) (st' := st') (x := x) (fun t ht => h t ht)
    rcases hs with hs | hs
    · simp only [evalE, rd, ← hv]
      simp only [looksE] at hs
      generalize x.v st = y at hs ⊢
      cases y with
      | t z => cases z <;> rfl
      | ptr _ _ => simp [looksV] at hs
      | mp _ => rfl
      | gd c y =>
        cases y with
        | t z => cases z <;> rfl
        | ptr _ _ => simp [looksV] at hs
        | _ => rfl
      | _ => rfl
    · simp only [evalE]; rw [r1 gc x (fun t ht => ht), hs]
  | ia sz x i => simp only [evalE]; rw [r1 gc x (fun t ht => by simp [AOp.slots, ht]), r1 gc i (fun t ht => by simp [AOp.slots, ht])]
  | iarr a b x i => simp only [evalE]; rw [r1 gc x (fun t ht => by simp [AOp.slots, ht]), r1 gc i (fun t ht => by simp [AOp.slots, ht])]
  | ixs x i => simp only [evalE]; rw [r1 gc x (fun t ht => by simp [AOp.slots, ht]), r1 gc i (fun t ht => by simp [AOp.slots, ht])]
  | ixa a b c x i => simp only [evalE]; rw [r1 gc x (fun t ht => by simp [AOp.slots, ht]), r1 gc i (fun t ht => by simp [AOp.slots, ht])]
  | len x => simp only [evalE]; rw [r1 gc x (fun t ht => ht)]
  | lens x => simp only [evalE]; rw [r1 gc x (fun t ht => ht)]
  | sls x lo hi =>
    have b1 := fun d => bnd_congr (st := st) (st' := st') (gc := gc) (x := lo) (d := d) (fun t ht => h t (by simp [AOp.slots, ht]))
    have b2 := fun d => bnd_congr (st := st) (st' := st') (gc := gc) (x := hi) (d := d) (fun t ht => h t (by simp [AOp.slots, ht]))
    simp only [evalE, b1, b2]; rw [r1 gc x (fun t ht => by simp [AOp.slots, ht])]
  | sll a x lo hi =>
    have b1 := fun d => bnd_congr (st := st) (st' := st') (gc := gc) (x := lo) (d := d) (fun t ht => h t (by simp [AOp.slots, ht]))
    have b2 := fun d => bnd_congr (st := st) (st' := st') (gc := gc) (x := hi) (d := d) (fun t ht => h t (by simp [AOp.slots, ht]))
    simp only [evalE, b1, b2]; rw [r1 gc x (fun t ht => by simp [AOp.slots, ht])]
  | fld a b c x => simp only [evalE]; rw [r1 gc x (fun t ht => ht)]
  | maxi x y => simp only [evalE]; rw [r1 gc x (fun t ht => by simp [AOp.slots, ht]), r1 gc y (fun t ht => by simp [AOp.slots, ht])]
  | mini x y => simp only [evalE]; rw [r1 gc x (fun t ht => by simp [AOp.slots, ht]), r1 gc y (fun t ht => by simp [AOp.slots, ht])]
  | build zs ps => simp only [evalE]; rw [fillV_congr (st := st) (st' := st') h]
  | mkfn f caps => simp only [evalE]; rw [capsOf_congr (st := st) (st' := st') h]
  | ext x i => simp only [evalE]; rw [r1 gc x (fun t ht => ht)]
  | lookup a b c d x k => rfl
  | lenm x => rfl
  | st n x v => rfl
  | box n x => rfl
  | alloc zs => rfl
  | bsl a b c d => rfl
  | app a b c d => rfl
  | mkmap a b => rfl
  | mksl a b c d => rfl
  | mupd a b c => rfl
  | mdel a b => rfl
  | call f a => rfl
  | callv x a => rfl

theorem FnEv_congr {f : FuncId} {vs : List V} {base : Nat} {sto sto' : List (Nat × AObj)} {out : Out} (hs : out.rd = false ∨ sto = sto') (h : FnEv P f vs base sto (· = out)) : FnEv P f vs base sto' (· = out) := by
  obtain ⟨o, h1, rfl⟩ := h
  refine ⟨o, ?_, rfl⟩
  rcases hs with hs | hs
  · simp only [hs, Bool.false_eq_true, if_false] at h1 ⊢; exact h1
  · rw [← hs]; exact h1

theorem evX_congr {base : Nat} {op : AOp} {out : Out} (h : ∀ t ∈ op.slots, look st.env t = look st'.env t) (hs : out.rd = false ∨ st.s.sto = st'.s.sto) (he : evX P base st (· = out) op) : evX P base st' (· = out) op := by
  have v1 : ∀ (x : Ar), (∀ t ∈ x.slots, t ∈ op.slots) → x.u st = x.u st' := fun x hx => u_congr fun t ht => h t (hx t ht)
  cases op with
  | st n x v =>
    simp only [evX] at he ⊢
    rw [← v1 x (fun t ht => by simp [AOp.slots, ht]), ← v1 v (fun t ht => by simp [AOp.slots, ht])]
    rcases hs with hs | hs
    · exfalso
      split at he
      · split at he
        · split at he
          · obtain ⟨_, rfl⟩ := he; simp at hs
          · exact he
        · exact he
      · exact he
    · rw [← hs]; exact he
  | box n x => simp only [evX] at he ⊢; rw [← v1 x (fun t ht => ht)]; exact he
  | alloc zs => exact he
  | bsl a b c d => simp only [evX] at he ⊢; rw [← pureParts_congr (st := st) (st' := st') h]; exact he
  | app a b x y =>
    simp only [evX] at he ⊢
    rw [← v1 x (fun t ht => by simp [AOp.slots, ht]), ← v1 y (fun t ht => by simp [AOp.slots, ht])]
    rcases hs with hs | hs
    · generalize (Ar.u st y).cell1 = cy at he ⊢
      generalize Ar.u st x = vx at he ⊢
      cases cy with
      | none => exact he
      | some z =>
        cases z with
        | lst ys =>
          cases vx with
          | nils => exact he
          | own k s xs =>
            exfalso
            simp only at he
            split at he
            · obtain ⟨_, _, _, _, _, rfl⟩ := he; simp at hs
            · exact he
          | _ => exact he
        | _ => exact he
    · rw [← hs]; exact he
  | mksl a b c n => simp only [evX] at he ⊢; rw [← v1 n (fun t ht => ht)]; exact he
  | call f args => simp only [evX] at he ⊢; rw [← argsV_congr (st := st) (st' := st') h]; exact FnEv_congr hs he
  | callv x args =>
    simp only [evX] at he ⊢
    rw [← v1 x (fun t ht => by simp [AOp.slots, ht]), ← argsV_congr (st := st) (st' := st') (fun t ht => h t (by simp [AOp.slots, ht]))]
    generalize Ar.u st x = vx at he ⊢
    cases vx with
    | t z =>
      cases z with
      | fn f => exact FnEv_congr hs he
      | _ => exact he
    | fn f caps => exact FnEv_congr hs he
    | _ => exact he
  | _ => exact he.elim

theorem evO_congr {base : Nat} {ao : AO} {out : Out} (h : ∀ t ∈ ao.reads, look st.env t = look st'.env t) (hs : out.rd = false ∨ st.s.sto = st'.s.sto) (he : evO P base st ao (· = out)) : evO P base st' ao (· = out) := by
  have hop : ∀ t ∈ ao.op.slots, look st.env t = look st'.env t := fun t ht => h t (by simp [AO.reads, ht])
  unfold evO at he ⊢
  cases hg : ao.g with
  | none =>
    simp only [hg] at he ⊢
    unfold evU at he ⊢
    cases hev : evalE true st ao.op with
    | some r =>
      obtain ⟨v, ps⟩ := r
      simp only [hev] at he
      obtain ⟨h1, rfl⟩ := he
      rw [← evalE_congr hop (by simpa using hs), hev]
      simp only
      exact ⟨h1, by rw [looksE_congr (st := st) (st' := st') hop]⟩
    | none =>
      simp only [hev] at he
      have : evalE true st' ao.op = none := by
        by_cases hl : looksE st ao.op = false
        · rw [← evalE_congr hop (.inl hl)]; exact hev
        · -- an operation that looks at objects is not one of evX
          exfalso
          cases hao : ao.op <;> simp_all [looksE, evX]
      rw [this]
      exact evX_congr hop hs he
  | some g =>
    obtain ⟨s, want⟩ := g
    simp only [hg] at he ⊢
    rw [← h s (by simp [AO.reads, hg])]
    cases hc : gcond want (look st.env s) with
    | none => simp only [hc] at he
    | some gc =>
      simp only [hc] at he ⊢
      cases hev : evalE gc st ao.op with
      | some r =>
        obtain ⟨v, ps⟩ := r
        simp only [hev] at he
        obtain ⟨h1, rfl⟩ := he
        rw [← evalE_congr hop (by simpa using hs), hev]
        simp only
        exact ⟨h1, by rw [looksE_congr (st := st) (st' := st') hop]⟩
      | none =>
        simp only [hev] at he
        rcases he with he | he
        · have hcg : callG P gc base st' (· = out) ao.op := by
            cases hao : ao.op <;> rw [hao] at he <;> try (exact he.elim)
            rename_i f args
            simp only [callG] at he ⊢
            rw [hao] at hop
            rw [← argsV_congr (st := st) (st' := st') hop]
            obtain ⟨o, h1, h2, rfl⟩ := he
            refine ⟨o, fun hg => ?_, h2, rfl⟩
            have := h1 hg
            rcases hs with hs | hs
            · simp only at hs; simp only [hs, Bool.false_eq_true, if_false] at this ⊢; exact this
            · rw [← hs]; exact this
          have hnone : evalE gc st' ao.op = none := by
            cases hao : ao.op <;> rw [hao] at hcg <;> first | exact hcg.elim | rfl
          rw [hnone]
          exact Or.inl hcg
        cases gc with
        | false =>
          have hout := he.2 rfl
          subst hout
          rw [← evalE_congr hop (by simpa using hs), hev]
          exact Or.inr ⟨by simp, fun _ => by rw [looksE_congr (st := st) (st' := st') hop]⟩
        | true =>
          have hx := he.1 rfl
          have : evalE true st' ao.op = none := by
            by_cases hl : looksE st ao.op = false
            · rw [← evalE_congr hop (.inl hl)]; exact hev
            · exfalso
              cases hao : ao.op <;> simp_all [looksE, evX]
          simp only [this]
          exact Or.inr ⟨fun _ => evX_congr hop hs hx, by simp⟩

end
end Go.GB
