/-
  YtpagjojfjeanlaaP5: lemmas of this proof (part 5). No conditions.
-/
import Derived.Test.YtpagjojfjeanlaaP4
import Derived.Handed

/-
  GbZJ: the driver's rules for maps whose values are pointers.
-/
namespace Go.GB
set_option linter.unusedVariables false
set_option linter.unusedSectionVars false
section
variable {P : Program} {n m : Nat} {R : St → Prop}
variable {draw : Bool} {all : List AO} {after : List (List Nat)} {live : List Nat} {k : List It} {b : Nat} {fl : List (Bool × Bool)} {ops : List AO} {st st' : St} {d : Option Nat} {b' : Nat}
variable {ks : List KSh} {kag : Bool} {es es' : List (List T × V)} {sx : Option (Nat × List Nat)} {zv vk : V} {q : Nat} {x y zz : Ar} {p1 p2 : List Bool} {cs : List T}

/-- what a map has at a key -/
theorem Mid.lookV (w : V) (hx : rd true st x = (.mp q, [])) (hq : aget st.s.sto q = some (.map kag es sx)) (hk : rd true st y = (vk, [])) (hc : keyC ks kag vk = some cs) (ho : keysOk ks es = true) (hw : (mget cs es).getD zv = w)
    (hs : stepV st d w some = some st')
    (h' : Mid P n m R draw all after live k b ((true, false) :: fl) ops st') : Mid P n m R draw all after live k b fl (⟨d, none, .nw (.lookup ks kag zv false x y)⟩ :: ops) st := by
  subst hw
  refine Mid.valL (v := (mget cs es).getD zv) (ps := [true, true]) ?_ (looksV_mp hx) ⟨rfl, rfl, trivial⟩ hs h'
  simp only [evalE, evalN, hx, hk, hc, hq, ho]
  cases mget cs es <;> simp [okV]
theorem Mid.lookVG {sl : Nat} {want gc : Bool} (w : V) (hg : gcondF want (look st.env sl) = some gc) (hx : rd gc st x = (.mp q, p1)) (hq : aget st.s.sto q = some (.map kag es sx)) (hk : rd gc st y = (vk, p2)) (hc : keyC ks kag vk = some cs) (ho : keysOk ks es = true) (hw : (mget cs es).getD zv = w)
    (hp1 : pall (p1.map fun p => !gc || p)) (hp2 : pall (p2.map fun p => !gc || p)) (hs : stepV st d (.gd gc w) some = some st')
    (h' : Mid P n m R draw all after live k b ((true, false) :: fl) ops st') : Mid P n m R draw all after live k b fl (⟨d, some (sl, want), .nw (.lookup ks kag zv false x y)⟩ :: ops) st := by
  subst hw
  refine Mid.valLG (v := (mget cs es).getD zv) (ps := p1 ++ (p2 ++ [true, true])) hg ?_ (looksV_mp hx) (by simp only [List.map_append, pall_app]; exact ⟨hp1, hp2, by simp [pall]⟩) hs h'
  simp only [evalE, evalN, hx, hk, hc, hq, ho]
  cases mget cs es <;> simp [okV]
/-- a map is written -/
theorem Mid.mapV (hx : x.u st = .mp q) (hq : aget st.s.sto q = some (.map kag es sx)) (hc : keyC ks kag (y.u st) = some cs) (ho : keysOk ks es = true) (hes : mset cs (zz.u st) es = es')
    (hst : stepS0 b st d { v := .top, ob := [(q, .map kag es' none)], rd := true } (fun b' st' => some (b', st')) = some (b', st'))
    (h' : Mid P n m R draw all after live k b' ((true, true) :: fl) ops st') : Mid P n m R draw all after live k b fl (⟨d, none, .nw (.mupd ks kag x y zz)⟩ :: ops) st := by
  subst hes
  refine Mid.opX rfl ?_
  simp only [stepS0_eq, Option.some.injEq, Prod.mk.injEq] at hst
  obtain ⟨rfl, rfl⟩ := hst
  simp only [evX, evXN, hx, hc, hq]
  exact ⟨⟨trivial, ho⟩, h'⟩
/-- a map is emptied -/
theorem Mid.clrV (hx : x.u st = .mp q) (hq : aget st.s.sto q = some (.map kag es sx))
    (hst : stepS0 b st d { v := .top, ob := [(q, .map kag [] none)], rd := true } (fun b' st' => some (b', st')) = some (b', st'))
    (h' : Mid P n m R draw all after live k b' ((true, true) :: fl) ops st') : Mid P n m R draw all after live k b fl (⟨d, none, .nw (.mclr x)⟩ :: ops) st := by
  refine Mid.opX rfl ?_
  simp only [stepS0_eq, Option.some.injEq, Prod.mk.injEq] at hst
  obtain ⟨rfl, rfl⟩ := hst
  simp only [evX, evXN, hx, hq]
  exact h'
/-- how many entries a map has -/
theorem Mid.lenmV (l0 : Nat) (hx : x.u st = .mp q) (hq : aget st.s.sto q = some (.map kag es sx)) (hl : es.length = l0) (hs : stepV st d (.t (.int .i64 l0)) some = some st')
    (h' : Mid P n m R draw all after live k b ((true, false) :: fl) ops st') : Mid P n m R draw all after live k b fl (⟨d, none, .lenm x⟩ :: ops) st := by
  subst hl
  simp only [stepV, V.force_eq, setEnv_eq, St.forceS_eq, Option.some.injEq] at hs
  have e : st' = st.app d { v := .t (.int .i64 es.length), rd := true } := by rw [← hs]; cases d <;> rfl
  rw [e] at h'
  refine Mid.opX rfl ?_
  simp only [evX, hx, hq]
  exact h'
/-- a new map -/
theorem Mid.mkmapV {vag : Bool} (hst : stepS0 b st d { v := .mp b, ob := [(b, .map kag [] (some (0, [])))], n := 1 } (fun b' st' => some (b', st')) = some (b', st'))
    (h' : Mid P n m R draw all after live k b' ((false, true) :: fl) ops st') : Mid P n m R draw all after live k b fl (⟨d, none, .mkmap kag vag⟩ :: ops) st :=
  Mid.mkmapT (κ := Nat) (ν := Nat) (fun _ => []) (fun _ => .nilp) hst h'
/- ---------- families of objects ---------- -/
/-- a new object of a family -/
theorem Mid.boxF {nn : Nat} {os : List (List V)} {vs : List V} (q : Nat) (hq : aget st.s.sto q = some (.fobs os)) (hv : (x.u st).parts = some vs) (hn : Nat.beq vs.length nn = true) (hc : vs.all V.cellOk = true)
    (hst : stepS0 b st d { v := .fpt q os.length 0, ob := [(q, .fobs (os ++ [vs]))], rd := true } (fun b' st' => some (b', st')) = some (b', st'))
    (h' : Mid P n m R draw all after live k b' ((true, true) :: fl) ops st') : Mid P n m R draw all after live k b fl (⟨d, none, .box nn x⟩ :: ops) st := by
  simp only [stepS0_eq, Option.some.injEq, Prod.mk.injEq] at hst
  obtain ⟨rfl, rfl⟩ := hst
  exact Mid.opY rfl (.boxF hq hv (Nat.eq_of_beq_eq_true hn) hc) h'
/-- an object of a family changes -/
theorem Mid.stF {nn i o : Nat} {os : List (List V)} {cs vs : List V} (hx : x.u st = .fpt q i o) (hq : aget st.s.sto q = some (.fobs os)) (hi : os[i]? = some cs) (hv : (y.u st).parts = some vs) (hn : Nat.beq vs.length nn = true) (ho : o + nn ≤ cs.length) (hc : vs.all V.cellOk = true)
    (hst : stepS0 b st d { v := .top, ob := [(q, .fobs (os.set i (setAt cs o vs)))], rd := true } (fun b' st' => some (b', st')) = some (b', st'))
    (h' : Mid P n m R draw all after live k b' ((true, true) :: fl) ops st') : Mid P n m R draw all after live k b fl (⟨d, none, .st nn x y⟩ :: ops) st := by
  simp only [stepS0_eq, Option.some.injEq, Prod.mk.injEq] at hst
  obtain ⟨rfl, rfl⟩ := hst
  exact Mid.opY rfl (.stF hx hq hi hv (Nat.eq_of_beq_eq_true hn) ho hc) h'
theorem looksV_fpt {gc : Bool} {x : Ar} {q i o : Nat} {p : List Bool} (hx : rd gc st x = (.fpt q i o, p)) : looksV (x.v st) = true := by
  unfold rd at hx
  generalize x.v st = u at hx ⊢
  cases u <;> simp only [V.un, Prod.mk.injEq] at hx <;> simp_all [looksV]
/-- loads from an object of a family -/
theorem Mid.ldF {nn i o : Nat} {os : List (List V)} {cs : List V} (w : V) (hx : rd true st x = (.fpt q i o, [])) (hq : aget st.s.sto q = some (.fobs os)) (hi : os[i]? = some cs) (hw : cs[o]? = some w) (hs : stepV st d w some = some st')
    (h' : Mid P n m R draw all after live k b ((true, false) :: fl) ops st') : Mid P n m R draw all after live k b fl (⟨d, none, .ld false nn x⟩ :: ops) st :=
  Mid.valL (v := w) (ps := []) (by simp only [evalE, hx, hq, hi, hw]; rfl) (looksV_fpt hx) trivial hs h'
theorem Mid.ldFA {nn i o : Nat} {os : List (List V)} {cs ds : List V} (hx : rd true st x = (.fpt q i o, [])) (hq : aget st.s.sto q = some (.fobs os)) (hi : os[i]? = some cs) (ho : o + nn ≤ cs.length) (hw : (cs.drop o).take nn = ds) (hs : stepV st d (.agg ds) some = some st')
    (h' : Mid P n m R draw all after live k b ((true, false) :: fl) ops st') : Mid P n m R draw all after live k b fl (⟨d, none, .ld true nn x⟩ :: ops) st :=
  Mid.valL (v := .agg ds) (ps := []) (by subst hw; simp only [evalE, hx, hq, hi, if_true]; rw [if_pos ho]) (looksV_fpt hx) trivial hs h'
end
end Go.GB


/-
  GbZH: a law's statement with the bound on its arguments' sizes.
-/
namespace Go.GB
open Go.RowKit Go.WideShapes Go.ChangeShapes
theorem handed {H : Type} {enc : TypeId × Value → H} {a : Assume} {C : Checked} {os : Os} {f : FuncId} {fn : Func} {s : ChangeSpec} {conds : List PathCond} {apart fresh handsOn again : Bool}
    (own : ownKnob C.prog.godebug = none) (started : os.Started) (noInit : C.prog.inits.idxOf? f = none) (hfn : C.prog.funcs[f]? = some fn)
    (witness : ∃ (w : World) (tape : Tape) (i : Go.Input), w.os = os ∧ (w.forCall tape i).Shaped C.prog ∧ i.vars = [] ∧ Go.Input.okWide C.prog (w.forCall tape i) .any w.heap.size f i ∧
      s.pre6 enc C.prog fn conds apart (w.forCall tape i).memory i.args ∧ a.holds C.prog (lone (Frame.enter C.prog f i.args .normal) [] (w.forCall tape i)))
    (contract : ∀ (W : World) (base : Nat) (args : Array Value) (ds gs : List (DataW H)) (before : List MemPlace),
      (∀ (j : Nat) t v, fn.params[j]? = some t → args[j]? = some v → Value.okWide C.prog W .any base t v) →
      DataW.Whole enc C.prog fn.params.toList s.vars apart W args.toList ds gs before →
      (DataW.weightsEach C.prog (fn.params.toList ++ s.plain.varTypes C.prog) (ds ++ gs)).all (· ≤ reachBytes) = true →
      Calls C.prog f args W fun e W' => ∃ v, e = .returned v ∧ s.post enc C.prog fn apart fresh handsOn again W args v W') :
    ReturnsInHanded a C os f .any (s.pre6 enc C.prog fn conds apart) (s.post enc C.prog fn apart fresh handsOn again) := by
  have e : (fun (w : World) (args : Array Value) => (s.pre enc C.prog fn conds apart w args ∧ True) ∧ sizedMet enc C.prog fn (OpenSpec.ofChange s) apart w args) = s.pre6 enc C.prog fn conds apart := by
    funext w args; simp only [and_true]; rfl
  rw [← e]
  obtain ⟨w, tape, i, h1, h2, h3, h4, h5, h6⟩ := witness
  exact returnsInHanded_of_change_and (X := fun _ _ => True) (fun _ _ _ _ _ => trivial) own started noInit hfn ⟨w, tape, i, h1, h2, h3, h4, ⟨⟨h5.1, trivial⟩, h5.2⟩, h6⟩ (fun W base args ds gs before a1 a2 _ a4 _ _ => contract W base args ds gs before a1 a2 a4)
end Go.GB

