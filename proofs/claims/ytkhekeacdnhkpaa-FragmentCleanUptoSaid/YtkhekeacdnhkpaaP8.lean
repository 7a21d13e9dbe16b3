/-
  YtkhekeacdnhkpaaP8: lemmas of this proof (part 8). No conditions.
-/
import Derived.Test.YtkhekeacdnhkpaaP6
import Derived.Test.YtkhekeacdnhkpaaP7
import Derived.Handed

/-
  E13P: shapes of documents, as laws are handed them.
-/
namespace Go.GB
open Go.RowKit
set_option linter.unusedSimpArgs false
set_option linter.unusedVariables false

mutual
def Sh.low : Sh → Bool
  | .num i => i == 0
  | .lst _ s => Sh.lows s
  | _ => true
def Sh.lows : List Sh → Bool
  | [] => true
  | s :: r => s.low && Sh.lows r
end
mutual
theorem Sh.ok_mono {Y Z : Nat → T → Prop} (h : ∀ x, Y 0 x → Z 0 x) : ∀ (s : Sh) (x : T), s.low = true → s.ok Y x → s.ok Z x
  | .num i, x, hl, hx => by
    simp only [Sh.low, beq_iff_eq] at hl
    subst hl
    exact h x hx
  | .lst b s, x, hl, hx => by
    obtain ⟨xs, h1, h2, h3, h4⟩ := hx
    exact ⟨xs, h1, h2, h3, fun c hc => Sh.oks_mono h s c (by simpa [Sh.low] using hl) (h4 c hc)⟩
  | .int k, x, hl, hx => hx
  | .str, x, hl, hx => hx
  | .bool, x, hl, hx => hx
  | .any, x, hl, hx => hx
theorem Sh.oks_mono {Y Z : Nat → T → Prop} (h : ∀ x, Y 0 x → Z 0 x) : ∀ (s : List Sh) (c : List T), Sh.lows s = true → Sh.oks Y s c → Sh.oks Z s c
  | [], [], _, _ => trivial
  | [], x :: c, _, hx => by simp [Sh.oks] at hx
  | s :: r, [], _, hx => by simp [Sh.oks] at hx
  | s :: r, x :: c, hl, hx => by
    simp only [Sh.lows, Bool.and_eq_true] at hl
    simp only [Sh.oks] at hx ⊢
    exact ⟨Sh.ok_mono h s x hl.1 hx.1, Sh.oks_mono h r c hl.2 hx.2⟩
end
/-- lists of values, lists of selections -/
def YS : Nat → T → Prop
  | 0, x => YA 0 x
  | _, x => ∃ l : List Sel, x = .lst (l.map Sel.enc) ∧ l.length * 128 ≤ B47 ∧ ∀ v ∈ l, v.Ok
def selSh : List Sh := [.int .i64, .str, .str, .str, .lst 96 argSh, .lst 40 dirSh, .num 1]
def varSh : List Sh := [.str] ++ refSh ++ [.bool] ++ valSh
def opSh : List Sh := [.int .i64, .str, .lst 144 varSh, .num 1]
def fragSh : List Sh := [.str, .str, .num 1]
def querySh : List Sh := [.lst 72 opSh, .lst 56 fragSh]
theorem YS.low {x : T} (h : YS 0 x) : YA 0 x := h
theorem argN_sh {c : List T} (h : Sh.oks YA argSh c) : ∃ a : Arg, c = a.enc ∧ (a.Ok ∧ a.name.length ≤ 140737488355328) := by
  have := reach_le
  obtain ⟨x, c, rfl, ⟨n, rfl, hn⟩, g1⟩ := Sh.oks_cons h
  obtain ⟨v, c', rfl, h1, h2⟩ := val_sh (r := []) (by simpa using g1)
  obtain rfl := Sh.oks_nil h2
  exact ⟨⟨n, v⟩, by simp [Arg.enc, Val.cs], h1, by show n.length ≤ _; omega⟩
theorem dirN_sh {c : List T} (h : Sh.oks YA dirSh c) : ∃ a : Dir, c = a.enc ∧ (a.Ok ∧ ∀ y, y ∈ a.args → y.name.length ≤ 140737488355328) := by
  have := reach_le
  obtain ⟨x, c, rfl, ⟨n, rfl, hn⟩, g1⟩ := Sh.oks_cons h
  obtain ⟨x, c, rfl, hx, g2⟩ := Sh.oks_cons g1
  obtain rfl := Sh.oks_nil g2
  obtain ⟨l, rfl, h1, _, h2⟩ := list_of (fun c hc => argN_sh hc) hx
  exact ⟨⟨n, l⟩, rfl, ⟨by show l.length ≤ _; omega, fun y hy => (h2 y hy).1, by show n.length ≤ _; omega⟩, fun y hy => (h2 y hy).2⟩
theorem sel_sh {c : List T} (h : Sh.oks YS selSh c) : ∃ s : Sel, c = s.enc ∧ s.Ok := by
  have := reach_le
  obtain ⟨x, c, rfl, ⟨k, rfl, _⟩, g1⟩ := Sh.oks_cons h
  obtain ⟨x, c, rfl, ⟨al, rfl, h1⟩, g2⟩ := Sh.oks_cons g1
  obtain ⟨x, c, rfl, ⟨n, rfl, h2⟩, g3⟩ := Sh.oks_cons g2
  obtain ⟨x, c, rfl, ⟨o, rfl, h3⟩, g4⟩ := Sh.oks_cons g3
  obtain ⟨x, c, rfl, hx, g5⟩ := Sh.oks_cons g4
  obtain ⟨as, rfl, a1, _, a2⟩ := list_of (fun c hc => argN_sh hc) (Sh.ok_mono (Y := YS) (Z := YA) (fun _ h => h) _ _ (by decide) hx)
  obtain ⟨x, c, rfl, hx, g6⟩ := Sh.oks_cons g5
  obtain ⟨ds, rfl, d1, _, d2⟩ := list_of (fun c hc => dirN_sh hc) (Sh.ok_mono (Y := YS) (Z := YA) (fun _ h => h) _ _ (by decide) hx)
  obtain ⟨x, c, rfl, ⟨ss, rfl, s1, s2⟩, g7⟩ := Sh.oks_cons g6
  obtain rfl := Sh.oks_nil g7
  exact ⟨.mk k al n o as ds ss, by rw [Sel.enc_eq]; rfl, .mk (by omega) (by omega) (by omega) (by unfold B47; omega) (by omega) s1 a2 d2 s2⟩
def spS (vt st : TypeId) (e : TypeId) : Option Nat := if e = vt then some 0 else if e = st then some 1 else none
theorem sel_wt {P : Program} {vt st : TypeId} (hb : P.bytesOf vt = 80) (hs : shOf P (spV vt) 6 vt = some valSh) (hbs : P.bytesOf st = 128) (hss : shOf P (spS vt st) 12 st = some selSh) : ∀ (n : Nat) (c : List T), WT P n st c → ∃ s : Sel, c = s.enc ∧ s.Ok := by
  have hv := val_wt hb hs
  intro n
  induction n using Nat.strongRecOn with
  | _ n ih =>
    intro c h
    refine sel_sh (shOf_ok (Y := YS) n 12 st selSh c (fun e i k xs hk he hr hl hc => ?_) hss h)
    have := reach_le
    unfold spS at he
    split at he
    · rename_i e1; subst e1
      simp only [Option.some.injEq] at he; subst he
      obtain ⟨l, rfl, h3⟩ := choose_map (f := Val.enc) (Q := Val.Ok) xs fun c hcm => hv k c (hc c hcm)
      rw [hb] at hr
      exact ⟨l, rfl, by unfold B47; simp at hr; omega, h3⟩
    · split at he
      · rename_i _ e1; subst e1
        simp only [Option.some.injEq] at he; subst he
        obtain ⟨l, rfl, h3⟩ := choose_map (f := Sel.enc) (Q := Sel.Ok) xs fun c hcm => ih k hk c (hc c hcm)
        rw [hbs] at hr
        exact ⟨l, rfl, by unfold B47; simp at hr; omega, h3⟩
      · cases he
theorem spS_ok {P : Program} {vt st : TypeId} (hb : P.bytesOf vt = 80) (hs : shOf P (spV vt) 6 vt = some valSh) (hbs : P.bytesOf st = 128) (hss : shOf P (spS vt st) 12 st = some selSh) :
    ∀ e i n xs, spS vt st e = some i → xs.length * P.bytesOf e ≤ reachBytes → xs.length ≤ maxLen → (∀ c ∈ xs, WT P n e c) → YS i (.lst xs) := by
  have hv := val_wt hb hs
  have hp := sel_wt hb hs hbs hss
  intro e i k xs he hr hl hc
  have := reach_le
  unfold spS at he
  split at he
  · rename_i e1; subst e1
    simp only [Option.some.injEq] at he; subst he
    obtain ⟨l, rfl, h3⟩ := choose_map (f := Val.enc) (Q := Val.Ok) xs fun c hcm => hv k c (hc c hcm)
    rw [hb] at hr
    exact ⟨l, rfl, by unfold B47; simp at hr; omega, h3⟩
  · split at he
    · rename_i _ e1; subst e1
      simp only [Option.some.injEq] at he; subst he
      obtain ⟨l, rfl, h3⟩ := choose_map (f := Sel.enc) (Q := Sel.Ok) xs fun c hcm => hp k c (hc c hcm)
      rw [hbs] at hr
      exact ⟨l, rfl, by unfold B47; simp at hr; omega, h3⟩
    · cases he
theorem var_sh {c : List T} (h : Sh.oks YA varSh c) : ∃ a : Var, c = a.enc ∧ a.Ok := by
  have := reach_le
  obtain ⟨x, c, rfl, ⟨n, rfl, hn⟩, g1⟩ := Sh.oks_cons h
  obtain ⟨t, c, rfl, ht, g2⟩ := ref_sh g1
  obtain ⟨x, c, rfl, ⟨b, rfl⟩, g3⟩ := Sh.oks_cons g2
  obtain ⟨v, c, rfl, hv, g4⟩ := val_sh (r := []) (by simpa using g3)
  obtain rfl := Sh.oks_nil g4
  exact ⟨⟨n, t, b, v⟩, by simp [Var.enc, Val.cs], ⟨by show n.length ≤ _; omega, ht, hv⟩⟩
theorem op_sh {c : List T} (h : Sh.oks YS opSh c) : ∃ a : Op, c = a.enc ∧ a.Ok := by
  have := reach_le
  obtain ⟨x, c, rfl, ⟨k, rfl, _⟩, g1⟩ := Sh.oks_cons h
  obtain ⟨x, c, rfl, ⟨n, rfl, h1⟩, g2⟩ := Sh.oks_cons g1
  obtain ⟨x, c, rfl, hx, g3⟩ := Sh.oks_cons g2
  obtain ⟨vs, rfl, v1, _, v2⟩ := list_of (fun c hc => var_sh hc) (Sh.ok_mono (Y := YS) (Z := YA) (fun _ h => h) _ _ (by decide) hx)
  obtain ⟨x, c, rfl, ⟨ss, rfl, s1, s2⟩, g4⟩ := Sh.oks_cons g3
  obtain rfl := Sh.oks_nil g4
  unfold B47 at s1
  exact ⟨⟨k, n, vs, ss⟩, rfl, ⟨by show n.length ≤ _; omega, by show vs.length ≤ _; omega, v2, s1, s2⟩⟩
theorem frag_sh {c : List T} (h : Sh.oks YS fragSh c) : ∃ a : Frag, c = a.enc ∧ a.Ok := by
  have := reach_le
  obtain ⟨x, c, rfl, ⟨n, rfl, h1⟩, g2⟩ := Sh.oks_cons h
  obtain ⟨x, c, rfl, ⟨o, rfl, h2⟩, g3⟩ := Sh.oks_cons g2
  obtain ⟨x, c, rfl, ⟨ss, rfl, s1, s2⟩, g4⟩ := Sh.oks_cons g3
  obtain rfl := Sh.oks_nil g4
  unfold B47 at s1
  exact ⟨⟨n, o, ss⟩, rfl, ⟨by show n.length ≤ _; omega, by show o.length ≤ _; omega, s1, s2⟩⟩
theorem query_sh {r : List Sh} {c : List T} (h : Sh.oks YS (querySh ++ r) c) : ∃ (q : Query) (c' : List T), c = .lst (q.ops.map Op.enc) :: .lst (q.frags.map Frag.enc) :: c' ∧ q.Ok ∧ Sh.oks YS r c' := by
  have := reach_le
  obtain ⟨x, c, rfl, hx, g1⟩ := Sh.oks_cons h
  obtain ⟨os, rfl, o1, _, o2⟩ := list_of (fun c hc => op_sh hc) hx
  obtain ⟨x, c, rfl, hx, g2⟩ := Sh.oks_cons g1
  obtain ⟨fs, rfl, f1, _, f2⟩ := list_of (fun c hc => frag_sh hc) hx
  exact ⟨⟨os, fs⟩, c, rfl, ⟨by show os.length ≤ _; omega, o2, by show fs.length * 56 ≤ _; omega, f2⟩, g2⟩
theorem query_sh0 {c : List T} (h : Sh.oks YS querySh c) : ∃ q : Query, c = [.lst (q.ops.map Op.enc), .lst (q.frags.map Frag.enc)] ∧ q.Ok := by
  obtain ⟨q, c', rfl, h1, h2⟩ := query_sh (r := []) h
  obtain rfl := Sh.oks_nil h2
  exact ⟨q, rfl, h1⟩
theorem docS_sh0 {c : List T} (h : Sh.oks YS docSh c) : ∃ l : List Def, c = [.lst (l.map Def.enc)] ∧ DocOk l :=
  doc_sh0 (Sh.oks_mono (Y := YS) (Z := YA) (fun _ h => h) _ _ (by decide) h)
end Go.GB


/-
  GbZH: a law's statement with the bound on its arguments' sizes.
-/
namespace Go.GB
open Go.RowKit Go.WideShapes Go.ChangeShapes
theorem handed {H : Type} {enc : TypeId × Value → H} {a : Assume} {C : Checked} {os : Os} {f : FuncId} {fn : Func} {s : ChangeSpec} {conds : List PathCond} {apart fresh handsOn again : Bool}
    (own : ownKnob C.prog.godebug = none) (started : os.Started) (noInit : C.prog.inits.idxOf? f = none) (hfn : C.prog.funcs[f]? = some fn)
    (witness : ∃ (w : World) (tape : Tape) (i : Go.Input), w.os = os ∧ (w.forCall tape i).Shaped C.prog ∧ i.vars = [] ∧ Go.Input.okWide C.prog (w.forCall tape i) .any w.heap.size f i ∧
      s.pre6 enc C.prog fn conds apart (w.forCall tape i).memory i.args ∧ a.holds C.prog (lone (Frame.enter C.prog f i.args .normal) [] (w.forCall tape i)))
    (contract : ∀ (W : World) (base : Nat) (args : Array Value) (ds gs : List (DataW H)) (before : List MemPlace),
      (∀ (j : Nat) t v, fn.params[j]? = some t → args[j]? = some v → Value.okWide C.prog W .any base t v) →
      DataW.Whole enc C.prog fn.params.toList s.vars apart W args.toList ds gs before →
      (DataW.weightsEach C.prog (fn.params.toList ++ s.plain.varTypes C.prog) (ds ++ gs)).all (· ≤ reachBytes) = true →
      Calls C.prog f args W fun e W' => ∃ v, e = .returned v ∧ s.post enc C.prog fn apart fresh handsOn again W args v W') :
    ReturnsInHanded a C os f .any (s.pre6 enc C.prog fn conds apart) (s.post enc C.prog fn apart fresh handsOn again) := by
  have e : (fun (w : World) (args : Array Value) => (s.pre enc C.prog fn conds apart w args ∧ True) ∧ sizedMet enc C.prog fn (OpenSpec.ofChange s) apart w args) = s.pre6 enc C.prog fn conds apart := by
    funext w args; simp only [and_true]; rfl
  rw [← e]
  obtain ⟨w, tape, i, h1, h2, h3, h4, h5, h6⟩ := witness
  exact returnsInHanded_of_change_and (X := fun _ _ => True) (fun _ _ _ _ _ => trivial) own started noInit hfn ⟨w, tape, i, h1, h2, h3, h4, ⟨⟨h5.1, trivial⟩, h5.2⟩, h6⟩ (fun W base args ds gs before a1 a2 _ a4 _ _ => contract W base args ds gs before a1 a2 a4)
end Go.GB

