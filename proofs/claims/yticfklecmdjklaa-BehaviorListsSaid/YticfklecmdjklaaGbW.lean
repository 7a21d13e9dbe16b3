/-
  GbW: the rules as a walk uses them.
-/
import Derived.Test.YticfklecmdjklaaGbV
namespace Go.GB
section
variable {P : Program} {n m : Nat} {st : St} {Q : AExit → St → Prop}

theorem Sat.ite {z : Ar} {a b : ACode} {t : Bool} (hz : z.v st = .t (.bool t)) (h1 : t = true → Sat P n m a st Q) (h2 : t = false → Sat P n m b st Q) : Sat P n m (.cond z a b) st Q := by
  refine Sat.cond hz ?_
  cases t with
  | true => exact h1 rfl
  | false => exact h2 rfl

/-- a call of a function that is handed no objects and hands none back -/
theorem callPure {f : FuncId} {vs : List V} {x : V} {base : Nat} {sto : List (Nat × AObj)} {K : Out → Prop} (h : FnOk P f vs ⟨[], 0⟩ { v := x }) (hb : V.bds 0 vs = true) (hx : x.bd 0 = true) (hk : K { v := x }) : FnEv P f vs base sto K :=
  ⟨{ v := x }, by simp only [Bool.false_eq_true, if_false]; exact fun s => h.pure hb hx, hk⟩

/-- the same under a guard -/
theorem callPureG {gc : Bool} {f : FuncId} {args : List Ar} {x : V} {base : Nat} {K : Out → Prop} (h : gc = true → FnOk P f (argsV st args) ⟨[], 0⟩ { v := x } ∧ V.bds 0 (argsV st args) = true) (hx : x.bd 0 = true) (hk : K { v := .gd gc x }) : guardX P gc base st K (.call f args) :=
  .inl ⟨{ v := x }, by simp only [Bool.false_eq_true, if_false]; exact fun hg s => (h hg).1.pure (h hg).2 hx, ⟨rfl, rfl⟩, hk⟩
theorem guardSplit {gc : Bool} {op : AOp} {base : Nat} {K : Out → Prop} (h1 : gc = true → evX P base st K op) (h2 : gc = false → K { v := .gd false .top, rd := looksE st op }) : guardX P gc base st K op := .inr ⟨h1, h2⟩

theorem EndOk.pure {rs : List ARes} {x r : V} (h : ressV st rs = some r) (hr : LeR 0 st.s r x) : EndOk ⟨[], 0⟩ { v := x } rs .ret st := ⟨r, h, Nat.zero_le _, hr, .le trivial⟩
theorem EndOk.pureN {rs : List ARes} {x r : V} (h : ressV st rs = some r) (hr : LeR 0 st.s r x) : EndOk ⟨[], 0⟩ { v := x } rs .normal st := ⟨r, h, Nat.zero_le _, hr, .le trivial⟩

/-- the end of a function that is handed no objects -/
theorem EndOk.go {rs : List ARes} {x : V} (h : match ressV st rs with | some r => LeR 0 st.s r x | none => False) : EndOk ⟨[], 0⟩ { v := x } rs .ret st := by
  cases hr : ressV st rs with
  | none => rw [hr] at h; exact h.elim
  | some r => rw [hr] at h; exact ⟨r, hr, Nat.zero_le _, h, .le trivial⟩

/-- the end of a function that reads objects and leaves them as they are -/
theorem EndOk.same {s : S} {rs : List ARes} {x : V} {rd : Bool} (hsto : st.s.sto = s.sto) (hn : s.nxt ≤ st.s.nxt) (hs : stoBd s.nxt s.sto = true) (h : match ressV st rs with | some r => LeR s.nxt st.s r x | none => False) : EndOk s { v := x, rd := rd } rs .ret st := by
  cases hr : ressV st rs with
  | none => rw [hr] at h; exact h.elim
  | some r => rw [hr] at h; exact ⟨r, hr, hn, h, .same fun k o hk => ⟨by rw [hsto]; exact hk, stoBd_at hs k o hk⟩⟩

theorem LeR.t {m : Nat} {s : S} {x y : T} (h : x = y) : LeR m s (.t x) (.t y) := .le (.tEq h)
theorem LeR.own {m : Nat} {s : S} {k sz : Nat} {xs ys : List (List T)} (h : xs = ys) : LeR m s (.own k sz xs) (.t (.lst ys)) := .le (h ▸ .ownT)
theorem LeR.nil {m : Nat} {s : S} {ys : List (List T)} (h : [] = ys) : LeR m s .nils (.t (.lst ys)) := .le (h ▸ .nilT)
theorem LeR.tup2 {m : Nat} {s : S} {a b c d : V} (h1 : LeR m s a c) (h2 : LeR m s b d) : LeR m s (.tup [a, b]) (.tup [c, d]) := .tup (.cons h1 (.cons h2 .nil))
theorem LeR.tup3 {m : Nat} {s : S} {a b c d e f : V} (h1 : LeR m s a d) (h2 : LeR m s b e) (h3 : LeR m s c f) : LeR m s (.tup [a, b, c]) (.tup [d, e, f]) := .tup (.cons h1 (.cons h2 (.cons h3 .nil)))

end

theorem wrap64 {x : Int} (h1 : -9223372036854775808 ≤ x) (h2 : x ≤ 9223372036854775807) : IntKind.i64.wrap x = x := by rw [IntKind.wrap_i64]; omega

theorem drop_at {α : Type} {l : List α} {i : Nat} {x : α} {r : List α} (h : l.drop i = x :: r) : l[i]? = some x ∧ l.drop (i + 1) = r ∧ i < l.length := by
  have h1 : l[i]? = some x := by
    have := List.getElem?_drop (xs := l) (i := i) (j := 0)
    rw [h] at this; simpa using this.symm
  refine ⟨h1, ?_, (List.getElem?_eq_some_iff.1 h1).1⟩
  rw [← List.drop_drop, h]; rfl
theorem drop_end {α : Type} {l : List α} {i : Nat} (h : l.drop i = []) : l.length ≤ i := List.drop_eq_nil_iff.1 h

end Go.GB
