/-
  GaF: the operations that only compute: what the evaluation says is what the model does.
-/
import Derived.Test.YticfklecmdjklaaGbD
import Derived.Laws.Sem
import Derived.Laws.Tables
import Derived.Laws.Cells
import Derived.Laws.Rows
import Derived.Laws.Strings
import Derived.Lib.Strings
namespace Go.GB

theorem RelV.repT {Λ : L} {v : Value} {x : T} (h : RelV Λ v (.t x)) : RepT Λ.lab Λ.w v x := by cases h; assumption

theorem RelV.cell1 {Λ : L} {v : Value} {x : V} {t : T} (h : RelV Λ v x) (hx : x.cell1 = some t) : RepT Λ.lab Λ.w v t := by
  cases h <;> simp [V.cell1] at hx
  · subst hx; assumption
  · subst hx; exact .nil
  · subst hx; assumption

theorem RepT.bool_inv {l : Nat → Lab} {w : World} {v : Value} {b : Bool} (h : RepT l w v (.bool b)) : v = .bool b := by cases h; rfl
theorem RepT.int_inv {l : Nat → Lab} {w : World} {v : Value} {k : IntKind} {n : Int} (h : RepT l w v (.int k n)) : v = .int k n := by cases h; rfl
theorem RepT.str_inv {l : Nat → Lab} {w : World} {v : Value} {s : List UInt8} (h : RepT l w v (.str s)) : v = .string ⟨⟨s⟩⟩ := by cases h; rfl

theorem RelV.of_litV {Λ : L} {v : Value} {x : V} (h : litV v = some x) : RelV Λ v x := by
  unfold litV at h
  split at h <;> simp at h <;> subst h
  · exact .t (.bool _)
  · exact .t (.int _ _)
  · exact .t (.str _)
  · exact .t .nilp
  · exact .t .nilm
  · exact .t .nilf
  · exact .nils

theorem RelV.of_zeroOk {Λ : L} {v : Value} {x : V} (h : zeroOk v x = true) : RelV Λ v x := by
  unfold zeroOk at h
  split at h <;> simp at h
  · subst h; exact .t (.bool _)
  · obtain ⟨rfl, rfl⟩ := h; exact .t (.int _ _)
  · subst h; exact .t (.str _)
  · exact .t .nilp
  · exact .t .nilm
  · exact .t .nilf
  · exact .nils

theorem zerosOk_at {Λ : L} : ∀ {vs : List Value} {xs : List V}, zerosOk vs xs = true → vs.length = xs.length ∧ ∀ (j : Nat) (v : Value) (x : V), vs[j]? = some v → xs[j]? = some x → RelV Λ v x
  | [], [], _ => ⟨rfl, by simp⟩
  | v :: vs, x :: xs, h => by
    simp only [zerosOk, Bool.and_eq_true] at h
    obtain ⟨h1, h2⟩ := zerosOk_at (Λ := Λ) h.2
    refine ⟨by simp [h1], fun j u y hu hy => ?_⟩
    cases j with
    | zero => simp at hu hy; subst hu; subst hy; exact .of_zeroOk h.1
    | succ j => exact h2 j u y (by simpa using hu) (by simpa using hy)
  | [], _ :: _, h => by simp [zerosOk] at h
  | _ :: _, [], h => by simp [zerosOk] at h

/-- an operand in a related frame -/
theorem Rel.opd {C : Ctx} {Λ : L} {st : St} {a : Act} (h : Rel C Λ st a) {y : Operand} {x : Ar} (hx : opA y = some x) : RelV Λ (a.eval y) (x.v st) := by
  unfold opA at hx
  split at hx
  · simp at hx; subst hx; exact h.env _
  · simp only [Option.map_eq_some_iff] at hx
    obtain ⟨v, hv, rfl⟩ := hx
    exact .of_litV hv
  · simp at hx; subst hx; exact .t (.fn _)
  · simp at hx

theorem RelV.ug {Λ : L} {v : Value} {x : V} (h : RelV Λ v x) : RelV Λ v x.ug := by
  cases h with
  | gd h _ =>
    rename_i c _ _
    cases c with
    | true => exact h rfl
    | false => exact .top
  | t h => exact .t h
  | nils => exact .nils
  | own a b c d e => exact .own a b c d e
  | slc a b c => exact .slc a b c
  | agg a b => exact .agg a b
  | tup a b => exact .tup a b
  | ptr a b => exact .ptr a b
  | mp a b => exact .mp a b
  | fn a b => exact .fn a b
  | top => exact .top
theorem Rel.opu {C : Ctx} {Λ : L} {st : St} {a : Act} (h : Rel C Λ st a) {y : Operand} {x : Ar} (hx : opA y = some x) : RelV Λ (a.eval y) (x.u st) := (h.opd hx).ug

theorem un_sound {Λ : L} {gc : Bool} {u : Value} {x v : V} {p : List Bool} (hx : RelV Λ u x) (hr : x.un gc = (v, p)) (hp : ∀ q ∈ p, q) (hg : gc = true) : RelV Λ u v := by
  unfold V.un at hr
  split at hr
  · simp only [Prod.mk.injEq] at hr
    obtain ⟨rfl, rfl⟩ := hr
    have := hp _ (List.mem_singleton.2 rfl)
    simp [hg] at this
    cases hx with
    | gd h _ => exact h this
  · simp only [Prod.mk.injEq] at hr
    obtain ⟨rfl, rfl⟩ := hr
    exact hx

theorem rd_sound {C : Ctx} {Λ : L} {st : St} {a : Act} (h : Rel C Λ st a) {y : Operand} {x : Ar} (hx : opA y = some x) {gc : Bool} {v : V} {p : List Bool}
    (hr : rd gc st x = (v, p)) (hp : ∀ q ∈ p, q) (hg : gc = true) : RelV Λ (a.eval y) v := un_sound (h.opd hx) hr hp hg

/-- What is to be shown of an operation that only computes. -/
def ESound (P : Program) (o : Oper) (gc : Bool) (st : St) (x : V) : Prop :=
  ∀ (C : Ctx) (Λ : L) (a : Act), C.P = P → gc = true → Rel C Λ st a → ∃ v, (execOp a.eval o).run P Λ.w = .ok (.value v) Λ.w ∧ RelV Λ v x

section
variable {P : Program} {o : Oper} {gc : Bool} {st : St}

theorem e_cst {x : V} {v : Value} (ho : o.op = .move (.const v) ∨ o.op = .assign (.const v)) (hx : ∀ Λ, RelV Λ v x) : ESound P o gc st x := by
  intro C Λ a _ _ _
  refine ⟨v, ?_, hx _⟩
  rcases ho with ho | ho <;> simp [execOp, ho, Act.eval]

theorem e_mv {y : Operand} {x : Ar} {v : V} {p : List Bool} (ho : o.op = .move y ∨ o.op = .assign y) (hy : opA y = some x) (hr : rd gc st x = (v, p)) (hp : ∀ q ∈ p, q) : ESound P o gc st v := by
  intro C Λ a _ hg h
  have hv := rd_sound h hy hr hp hg
  refine ⟨a.eval y, ?_, hv⟩
  rcases ho with ho | ho <;> simp [execOp, ho]

theorem e_pick {c x y : Operand} {c' x' y' : Ar} {cb xa xb : Bool} {p1 p2 p3 : List Bool} (ho : o.op = .pick c x y) (hc : opA c = some c') (hx : opA x = some x') (hy : opA y = some y')
    (h1 : rd gc st c' = (.t (.bool cb), p1)) (h2 : rd (gc && cb) st x' = (.t (.bool xa), p2)) (h3 : rd (gc && !cb) st y' = (.t (.bool xb), p3)) (hp : ∀ q ∈ p1 ++ (p2 ++ p3), q) :
    ESound P o gc st (.t (.bool (bif cb then xa else xb))) := by
  intro C Λ a _ hg h
  have hc1 := rd_sound h hc h1 (fun q hq => hp q (by simp [hq])) hg
  have ec := hc1.repT.bool_inv
  cases cb with
  | true =>
    have hx1 := rd_sound h hx h2 (fun q hq => hp q (by simp [hq])) (by simp [hg])
    refine ⟨a.eval x, by simp [execOp, ho, ec, asBool], ?_⟩
    exact .t hx1.repT
  | false =>
    have hy1 := rd_sound h hy h3 (fun q hq => hp q (by simp [hq])) (by simp [hg])
    refine ⟨a.eval y, by simp [execOp, ho, ec, asBool], ?_⟩
    exact .t hy1.repT

theorem e_not {t : TypeId} {x : Operand} {x' : Ar} {b : Bool} {p : List Bool} (ho : o.op = .unOp .not t x) (hx : opA x = some x') (h1 : rd gc st x' = (.t (.bool b), p)) (hp : ∀ q ∈ p, q) :
    ESound P o gc st (.t (.bool (!b))) := by
  intro C Λ a _ hg h
  have hx1 := rd_sound h hx h1 hp hg
  have e := hx1.repT.bool_inv
  exact ⟨.bool (!b), by simp [execOp, ho, e, Op.unary], .t (.bool _)⟩

theorem e_neg {t : TypeId} {x : Operand} {x' : Ar} {k : IntKind} {n : Int} {p : List Bool} (ho : o.op = .unOp .neg t x) (hx : opA x = some x') (h1 : rd gc st x' = (.t (.int k n), p)) (hp : ∀ q ∈ p, q) :
    ESound P o gc st (.t (.int k (k.wrap (0 - n)))) := by
  intro C Λ a _ hg h
  have hx1 := rd_sound h hx h1 hp hg
  have e := hx1.repT.int_inv
  exact ⟨.int k (k.wrap (0 - n)), by simp [execOp, ho, e, Op.unary, Op.intArith], .t (.int _ _)⟩

theorem toList_mk (s : List UInt8) : ByteArray.toList ⟨⟨s⟩⟩ = s := ByteArray.toList_mk s

theorem append_mk (a b : List UInt8) : (⟨⟨a⟩⟩ ++ ⟨⟨b⟩⟩ : ByteArray) = ⟨⟨a ++ b⟩⟩ := by
  apply ByteArray.ext
  simp [ByteArray.data_append]

theorem e_bin {op : BinOp} {t ty : TypeId} {x y : Operand} {x' y' : Ar} {a b r : T} {p1 p2 p3 : List Bool} (ho : o.op = .binOp op t x y ty) (hx : opA x = some x') (hy : opA y = some y')
    (h1 : rd gc st x' = (.t a, p1)) (h2 : rd gc st y' = (.t b, p2)) (hb : binT op a b = some (r, p3)) (hp : ∀ q ∈ p1 ++ (p2 ++ p3), q) : ESound P o gc st (.t r) := by
  intro C Λ ac _ hg h
  have hx1 := rd_sound h hx h1 (fun q hq => hp q (by simp [hq])) hg
  have hy1 := rd_sound h hy h2 (fun q hq => hp q (by simp [hq])) hg
  have hp3 : ∀ q ∈ p3, q := fun q hq => hp q (by simp [hq])
  cases a with
  | int k m =>
    cases b with
    | int k' n =>
      have e1 := hx1.repT.int_inv
      have e2 := hy1.repT.int_inv
      simp only [binT] at hb
      split at hb
      · rename_i hk
        subst hk
        cases op <;> simp at hb <;> obtain ⟨rfl, rfl⟩ := hb
        case quo =>
          have hn : n ≠ 0 := of_decide_eq_true (hp3 _ (by simp))
          exact ⟨_, by simp [execOp, ho, e1, e2, eqGuard, binOp, Op.intDiv, hn], .t (.int _ _)⟩
        case rem =>
          have hn : n ≠ 0 := of_decide_eq_true (hp3 _ (by simp))
          exact ⟨_, by simp [execOp, ho, e1, e2, eqGuard, binOp, Op.intDiv, hn], .t (.int _ _)⟩
        case add => exact ⟨_, by simp [execOp, ho, e1, e2, eqGuard, binOp, Op.intArith], .t (.int _ _)⟩
        case sub => exact ⟨_, by simp [execOp, ho, e1, e2, eqGuard, binOp, Op.intArith], .t (.int _ _)⟩
        case mul => exact ⟨_, by simp [execOp, ho, e1, e2, eqGuard, binOp, Op.intArith], .t (.int _ _)⟩
        all_goals exact ⟨_, by simp [execOp, ho, e1, e2, eqGuard, binOp, Op.intCmp], .t (.bool _)⟩
      · simp at hb
    | _ => simp [binT] at hb
  | str m =>
    cases b with
    | str n =>
      have e1 := hx1.repT.str_inv
      have e2 := hy1.repT.str_inv
      simp only [binT] at hb
      cases op <;> simp at hb <;> obtain ⟨rfl, rfl⟩ := hb
      · have hn : m.length + n.length ≤ 9223372036854775807 := of_decide_eq_true (hp3 _ (by simp))
        have hn' : ¬ (IntKind.i64.max < ((m.length + n.length : Nat) : Int)) := by
          show ¬ ((9223372036854775807 : Int) < _)
          omega
        have hs : ((⟨⟨m⟩⟩ : ByteArray).size + (⟨⟨n⟩⟩ : ByteArray).size) = m.length + n.length := rfl
        refine ⟨.string ⟨⟨m ++ n⟩⟩, ?_, .t (.str _)⟩
        simp only [execOp, ho, e1, e2, eqGuard, binOp, Op.stringOp, hs, append_mk]
        simp
        omega
      all_goals exact ⟨_, by simp [execOp, ho, e1, e2, eqGuard, binOp, Op.stringOp], .t (.bool _)⟩
    | _ => simp [binT] at hb
  | _ => simp [binT] at hb

end
end Go.GB
