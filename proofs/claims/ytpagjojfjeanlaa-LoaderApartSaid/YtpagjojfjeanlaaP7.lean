/-
  YtpagjojfjeanlaaP7: lemmas of this proof (part 7). No conditions.
-/
import Derived.Test.YtpagjojfjeanlaaP6
import Derived.Test.YtpagjojfjeanlaaP4

/-
  L35N: chapter 35: shapes of the laws' arguments.
-/
namespace Go.GB.C35
open Go.GB
set_option linter.unusedSimpArgs false
set_option linter.unusedVariables false
theorem spV_ok {P : Program} {vt : TypeId} (hb : P.bytesOf vt = 80) (hs : shOf P (spV vt) 6 vt = some valSh) :
    ∀ e i n xs, spV vt e = some i → xs.length * P.bytesOf e ≤ reachBytes → xs.length ≤ maxLen → (∀ c ∈ xs, WT P n e c) → YA i (.lst xs) := by
  have hv := val_wt hb hs
  intro e i k xs he hr hl hc
  have := reach_le
  unfold spV at he
  split at he
  · rename_i e1; subst e1
    simp only [Option.some.injEq] at he; subst he
    obtain ⟨l, rfl, h3⟩ := choose_map (f := Val.enc) (Q := Val.Ok) xs fun c hcm => hv k c (hc c hcm)
    rw [hb] at hr
    exact ⟨l, rfl, by unfold B47; simp at hr; omega, h3⟩
  · cases he
theorem int_0 {c : List T} (h : Sh.oks YA [.int .i64] c) : ∃ n : Int, c = [.int .i64 n] ∧ -9223372036854775808 ≤ n ∧ n ≤ 9223372036854775807 := by
  obtain ⟨x, c, rfl, ⟨n, rfl, hw⟩, g1⟩ := Sh.oks_cons h
  obtain rfl := Sh.oks_nil g1
  refine ⟨n, rfl, ?_⟩
  have h1 : IntKind.i64.min = -9223372036854775808 := by decide
  have h2 : IntKind.i64.max = 9223372036854775807 := by decide
  simp [Lit.wf, h1, h2] at hw
  omega
theorem vals_0 {c : List T} (h : Sh.oks YA [.num 0] c) : ∃ l : List Val, c = [.lst (l.map Val.enc)] ∧ l.length * 80 ≤ 140737488355328 ∧ ∀ v, v ∈ l → v.Ok := by
  obtain ⟨x, c, rfl, ⟨l, rfl, h1, h2⟩, g1⟩ := Sh.oks_cons h
  obtain rfl := Sh.oks_nil g1
  exact ⟨l, rfl, by unfold B47 at h1; omega, h2⟩
end Go.GB.C35

