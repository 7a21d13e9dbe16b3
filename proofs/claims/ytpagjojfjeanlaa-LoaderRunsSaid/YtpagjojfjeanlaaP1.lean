/-
  YtpagjojfjeanlaaP1: lemmas of this proof (part 1). No conditions.
-/
import Derived.Test.YtpagjojfjeanlaaP0
import Derived.Laws.AppendOwn
import Derived.Laws.CopyRow
import Derived.Laws.MakeOwn
import Derived.Laws.StructEq
import Derived.MapKept

/-
  GaJ: structs built, nil compared, closures made, choices.
-/
namespace Go.GB
section
variable {P : Program} {o : Oper} {gc : Bool} {st : St}

/-- cells related wherever they lie -/
def RelC (Λ : L) (arr : Array Value) (cs : List V) : Prop :=
  arr.size = cs.length ∧ ∀ (j : Nat) (v : Value) (c : V), arr[j]? = some v → cs[j]? = some c → RelV Λ v c

theorem RelC.set {Λ : L} {arr : Array Value} {cs : List V} (h : RelC Λ arr cs) {i : Nat} {v : Value} {c : V} (hv : RelV Λ v c) : RelC Λ (arr.setIfInBounds i v) (cs.set i c) := by
  refine ⟨by simp [h.1], fun j u x hu hx => ?_⟩
  rw [Array.getElem?_setIfInBounds] at hu
  rw [List.getElem?_set] at hx
  by_cases e : i = j
  · subst e
    by_cases hlt : i < arr.size
    · have hlt' : i < cs.length := by rw [← h.1]; exact hlt
      simp [hlt] at hu; simp [hlt'] at hx; subst hu; subst hx; exact hv
    · simp [hlt] at hu
  · simp only [e, if_false] at hu hx; exact h.2 j u x hu hx

theorem RelC.foldl {Λ : L} (off : Nat) : ∀ (vs : List Value) (us : List V) (s : Nat) (arr : Array Value) (cs : List V), vs.length = us.length →
    (∀ (j : Nat) (v : Value) (c : V), vs[j]? = some v → us[j]? = some c → RelV Λ v c) → RelC Λ arr cs →
    RelC Λ ((vs.zipIdx s).foldl (fun cs (c, j) => cs.setIfInBounds (off + j) c) arr) (setAt cs (off + s) us)
  | [], [], s, arr, cs, _, _, h => by simpa [setAt] using h
  | v :: vs, u :: us, s, arr, cs, hl, hv, h => by
    simp only [List.zipIdx_cons, List.foldl_cons, setAt]
    rw [Nat.add_assoc]
    exact RelC.foldl off vs us (s + 1) _ _ (by simpa using hl) (fun j a b h1 h2 => hv (j + 1) a b (by simpa using h1) (by simpa using h2)) (h.set (hv 0 v u rfl rfl))
  | [], _ :: _, _, _, _, hl, _, _ => by simp at hl
  | _ :: _, [], _, _, _, hl, _, _ => by simp at hl

theorem setAt_length : ∀ (us : List V) (cs : List V) (off : Nat), (setAt cs off us).length = cs.length
  | [], _, _ => rfl
  | u :: us, cs, off => by simp [setAt, setAt_length us]

theorem RelV.parts {Λ : L} {v : Value} {x : V} {ps : List V} (h : RelV Λ v x) (hp : x.parts = some ps) : RelC Λ v.cells ps := by
  have one : ∀ {v : Value} {y : V}, v.cells = #[v] → RelV Λ v y → RelC Λ v.cells [y] := by
    intro v y hv hy
    rw [hv]
    refine ⟨rfl, fun j u c hu hc => ?_⟩
    cases j with
    | zero => simp at hu hc; subst hu; subst hc; exact hy
    | succ j => simp at hc
  cases h with
  | t h => simp [V.parts] at hp; subst hp; refine one ?_ (.t h); cases h <;> rfl
  | nils => simp [V.parts] at hp; subst hp; exact one rfl .nils
  | own h a b c d => simp [V.parts] at hp; subst hp; refine one ?_ (.own h a b c d); cases h <;> rfl
  | slc a c h => simp [V.parts] at hp; subst hp; exact one rfl (.slc a c h)
  | agg hs h => simp [V.parts] at hp; subst hp; exact ⟨by simpa [Value.cells] using hs, h⟩
  | tup _ _ => simp [V.parts] at hp
  | ptr a h => simp [V.parts] at hp; subst hp; exact one rfl (.ptr a h)
  | mp a h => simp [V.parts] at hp; subst hp; exact one rfl (.mp a h)
  | fn hs h => simp [V.parts] at hp; subst hp; exact one rfl (.fn hs h)
  | gd _ _ => simp [V.parts] at hp
  | top => simp [V.parts] at hp
  | ub _ _ => simp [V.parts] at hp
  | ui => simp [V.parts] at hp; subst hp; exact one rfl .ui
  | fpt a h => simp [V.parts] at hp; subst hp; exact one rfl (.fpt a h)
  | gpt hv a b h => simp [V.parts] at hp; subst hp; refine one ?_ (.gpt hv a b h); obtain ⟨_, rfl⟩ := hv; rfl
  | gsl hv a b h => simp [V.parts] at hp; subst hp; refine one ?_ (.gsl hv a b h); obtain ⟨_, _, _, rfl⟩ := hv; rfl
  | fow h a b c d => simp [V.parts] at hp; subst hp; refine one ?_ (.fow h a b c d); cases h <;> rfl

theorem fill_sound {C : Ctx} {Λ : L} {ac : Act} (h : Rel C Λ st ac) (hg : gc = true) (place : Nat → Option (Nat × Nat)) : ∀ (parts : List (Nat × Operand)) (ps : List (Nat × Nat × Ar)) (arr : Array Value) (cs cs' : List V) (p : List Bool),
    partsOf place parts = some ps → RelC Λ arr cs → fillV st gc cs ps = some (cs', p) → (∀ q ∈ p, q) →
    ∃ arr', Instr.fill place arr (parts.map fun (i, x) => (i, ac.eval x)) = some arr' ∧ RelC Λ arr' cs'
  | [], ps, arr, cs, cs', p, hps, hr, hf, _ => by
    simp [partsOf] at hps; subst hps; simp [fillV] at hf; obtain ⟨rfl, rfl⟩ := hf
    exact ⟨arr, rfl, hr⟩
  | (i, x) :: parts, ps, arr, cs, cs', p, hps, hr, hf, hp => by
    simp only [partsOf] at hps
    split at hps
    · rename_i off n a l h1 h2 h3
      simp at hps; subst hps
      simp only [fillV] at hf
      generalize hrd : rd gc st a = va at hf
      obtain ⟨v, p1⟩ := va
      simp only at hf
      split at hf
      · simp at hf
      · rename_i us hus
        split at hf
        · rename_i hle
          split at hf
          · rename_i c q hrest
            simp at hf; obtain ⟨rfl, rfl⟩ := hf
            have hv := rd_sound h h2 hrd (fun q hq => hp q (by simp [hq])) hg
            have hc := hv.parts hus
            have hfold := RelC.foldl off (ac.eval x).cells.toList us 0 arr cs (by simpa using hc.1) (fun j a b e1 e2 => hc.2 j a b (by simpa using e1) e2) hr
            obtain ⟨arr', h4, h5⟩ := fill_sound h hg place parts l _ _ _ _ h3 hfold hrest (fun q hq => hp q (by simp [hq]))
            refine ⟨arr', ?_, h5⟩
            have hsz : (ac.eval x).cells.size = n := by rw [hc.1]; exact hle.1
            have hsz2 : arr.size = cs.length := hr.1
            simp only [List.map_cons, Instr.fill, h1, hsz]
            have : ¬ (off + n > arr.size) := by omega
            simp only [ne_eq, not_true_eq_false, decide_false, this, Bool.or_self, Bool.false_eq_true, if_false]
            rw [← h4]
            congr 1
            rw [← Array.foldl_toList, Array.toList_zipIdx]
          · simp at hf
        · simp at hf
    · simp at hps

theorem zerosOf_spec {t : TypeId} {zs : List V} (h : zerosOf P t = some zs) : ∃ i z, P.info? t = some i ∧ i.zero = some z ∧ zs.length = i.size ∧ zerosOk z.cells.toList zs = true := by
  unfold zerosOf at h
  split at h
  · rename_i i zs' hi _
    split at h
    · rename_i z hz
      split at h
      · rename_i hc
        simp at h; subst h
        simp at hc
        exact ⟨i, z, hi, hz, hc.2, hc.1⟩
      · simp at h
    · simp at h
  · simp at h

theorem zeros_relC {Λ : L} {z : Value} {zs : List V} (h : zerosOk z.cells.toList zs = true) : RelC Λ z.cells zs := by
  obtain ⟨h1, h2⟩ := zerosOk_at (Λ := Λ) h
  exact ⟨by simpa using h1, fun j v c hv hc => h2 j v c (by simpa using hv) hc⟩

theorem e_build {t : TypeId} {parts : Array (Nat × Operand)} {zs cs : List V} {ps : List (Nat × Nat × Ar)} {p : List Bool} (ho : o.op = .build t parts) (hz : zerosOf P t = some zs)
    (hps : (∃ fs pl, P.underlying t = some (.struct fs) ∧ placesOf P fs = some pl ∧ partsOf (pl.toArray[·]?) parts.toList = some ps) ∨
      (∃ m e sz, P.underlying t = some (.array m e) ∧ szOf P e = some sz ∧ partsOf (fun i => some (i * sz, sz)) parts.toList = some ps))
    (hf : fillV st gc zs ps = some (cs, p)) (hp : ∀ q ∈ p, q) : ESound P o gc st (.agg cs) := by
  intro C Λ ac _ hg h
  obtain ⟨i, z, hi, hz1, hlen, hok⟩ := zerosOf_spec hz
  have hrc := zeros_relC (Λ := Λ) hok
  have fin : ∀ arr', P.built t (parts.map fun (i, x) => (i, ac.eval x)).toList = some arr' → RelC Λ arr' cs → ∃ v, (execOp ac.eval o).run P Λ.w = .ok (.value v) Λ.w ∧ RelV Λ v (.agg cs) := by
    intro arr' h1 h2
    refine ⟨.agg arr', ?_, .agg h2.1 fun j v c e1 e2 => h2.2 j v c e1 e2⟩
    simp only [execOp, ho, Sem.run_bind, run_build Λ.w t _ arr' h1]
    rfl
  rcases hps with ⟨fs, pl, hu, hpl, hpo⟩ | ⟨m, e, sz, hu, hs, hpo⟩
  · obtain ⟨arr', h1, h2⟩ := fill_sound h hg _ _ _ _ _ _ _ hpo hrc hf hp
    refine fin arr' ?_ h2
    unfold placesOf at hpl
    simp only [Program.built, hi, hu, hz1, hpl, Array.toList_map]
    exact h1
  · obtain ⟨arr', h1, h2⟩ := fill_sound h hg _ _ _ _ _ _ _ hpo hrc hf hp
    refine fin arr' ?_ h2
    unfold szOf at hs
    cases hie : P.info? e with
    | none => rw [hie] at hs; simp at hs
    | some ie =>
      rw [hie] at hs; simp at hs; subst hs
      simp only [Program.built, hi, hu, hz1, hie, Array.toList_map]
      exact h1

theorem e_mkfn {f : FuncId} {first caps : Array Operand} {caps' : List Ar} {cs : List (Nat × Nat)} (ho : o.op = .makeFunc (.func f) first caps) (hfirst : first.isEmpty = true) (hc : caps.toList.mapM opA = some caps')
    (hcs : capsOf st caps' = some cs) : ESound P o gc st (.fn f cs) := by
  intro C Λ ac _ hg h
  have key : ∀ (xs : List Operand) (ys : List Ar) (cs : List (Nat × Nat)), xs.mapM opA = some ys → capsOf st ys = some cs →
      (xs.map ac.eval).length = cs.length ∧ ∀ (j : Nat) (v : Value) (c : Nat × Nat), (xs.map ac.eval)[j]? = some v → cs[j]? = some c → ∃ b, v = .pointer (some ⟨b, c.2, none⟩) ∧ Λ.lab b = .obj c.1 ∧ c.1 < Λ.nxt := by
    intro xs
    induction xs with
    | nil => intro ys cs h1 h2; simp at h1; subst h1; simp [capsOf] at h2; subst h2; simp
    | cons x xs ih =>
      intro ys cs h1 h2
      simp only [List.mapM_cons, Option.bind_eq_bind, Option.pure_def, Option.bind_eq_some_iff] at h1
      obtain ⟨y, hy, ys', hys, h1⟩ := h1
      simp at h1; subst h1
      simp only [capsOf] at h2
      split at h2
      · rename_i k off cs' hv hcs'
        simp at h2; subst h2
        obtain ⟨i1, i2⟩ := ih ys' cs' hys hcs'
        refine ⟨by simpa using i1, fun j v c hj hc => ?_⟩
        cases j with
        | zero =>
          simp at hj hc; subst hj; subst hc
          have hr := h.opd hy
          rw [hv] at hr
          generalize ac.eval x = u at hr
          cases hr with
          | @ptr b _ _ hk hb => exact ⟨b, rfl, hb, hk⟩
        | succ j => exact i2 j v c (by simpa using hj) (by simpa using hc)
      · simp at h2
  obtain ⟨k1, k2⟩ := key _ _ _ hc hcs
  have he : first = #[] := by simpa using hfirst
  subst he
  refine ⟨.func (.func f) #[] (caps.map ac.eval), by simp [execOp, ho, Instr.makeFunc], .fn (by simpa using k1) fun j v c hj hc => k2 j v c (by simpa using hj) hc⟩

theorem run_equal_step {t : TypeId} (x y : Value) (w : World) (b : Bool)
    (h : ∀ n, (Op.equalIn (n + 1) t x y).run P w = .ok b w) : (Op.equal t x y).run P w = .ok b w := h 9999

theorem e_eqn_f {neg : Bool} {t ty : TypeId} {x : Operand} {x' : Ar} {k i off : Nat} {e : TypeId} {p : List Bool} (hu : P.underlying t = some (.pointer e))
    (ho : o.op = .binOp (if neg then .neq else .eql) t x (.const (.pointer none)) ty) (hx : opA x = some x') (h1 : rd gc st x' = (.fpt k i off, p)) (hp : ∀ q ∈ p, q) : ESound P o gc st (.t (.bool neg)) := by
  intro C Λ ac _ hg h
  have hx1 := rd_sound h hx h1 hp hg
  generalize hv' : ac.eval x = u at hx1
  have hc : ∀ v, ac.eval (.const v) = v := fun _ => rfl
  refine ⟨.bool neg, ?_, .t (.bool _)⟩
  cases hx1 with
  | @fpt bl _ _ _ hk' h' =>
    have hq : (Op.equal t (.pointer (some ⟨bl, off, none⟩)) (.pointer none)).run P Λ.w = .ok false Λ.w := run_equal_step _ _ Λ.w false (fun n => by simp [Op.equalIn, run_underlying hu])
    cases neg <;> simp [execOp, ho, hv', hc, eqGuard, binOp, hq]

theorem e_eqn_g {neg : Bool} {t ty : TypeId} {x : Operand} {x' : Ar} {k ver off w : Nat} {cs : List V} {e : TypeId} {p : List Bool} (hu : P.underlying t = some (.pointer e))
    (ho : o.op = .binOp (if neg then .neq else .eql) t x (.const (.pointer none)) ty) (hx : opA x = some x') (h1 : rd gc st x' = (.gpt k ver off, p)) (hp : ∀ q ∈ p, q) (hk : aget st.s.sto k = some (.gro w cs)) (hw : ver = w) : ESound P o gc st (.t (.bool neg)) := by
  intro C Λ ac _ hg h
  have hx1 := rd_sound h hx h1 hp hg
  generalize hv' : ac.eval x = u at hx1
  have hc : ∀ v, ac.eval (.const v) = v := fun _ => rfl
  refine ⟨.bool neg, ?_, .t (.bool _)⟩
  cases hx1 with
  | gpt _ hk' _ h' =>
    obtain ⟨bl, rfl, _⟩ := h' (hw.trans (h.s.sto k _ hk).2.1.symm)
    have hq : (Op.equal t (.pointer (some ⟨bl, off, none⟩)) (.pointer none)).run P Λ.w = .ok false Λ.w := run_equal_step _ _ Λ.w false (fun n => by simp [Op.equalIn, run_underlying hu])
    cases neg <;> simp [execOp, ho, hv', hc, eqGuard, binOp, hq]

theorem e_eqn {neg : Bool} {t ty : TypeId} {x y : Operand} {x' : Ar} {v : V} {b : Bool} {p : List Bool} (hu : (∃ e, P.underlying t = some (.pointer e)) ∧ y = .const (.pointer none) ∨ (∃ k e, P.underlying t = some (.map k e)) ∧ y = .const (.map none))
    (ho : o.op = .binOp (if neg then .neq else .eql) t x y ty) (hx : opA x = some x') (h1 : rd gc st x' = (v, p)) (hp : ∀ q ∈ p, q)
    (hv : (y = .const (.pointer none) ∧ ((v = .t .nilp ∧ b = !neg) ∨ ((∃ k o, v = .ptr k o) ∧ b = neg) ∨ ((∃ c, v = .t (.ptr c)) ∧ b = neg))) ∨ (y = .const (.map none) ∧ ((v = .t .nilm ∧ b = !neg) ∨ ((∃ k, v = .mp k) ∧ b = neg)))) :
    ESound P o gc st (.t (.bool b)) := by
  intro C Λ ac _ hg h
  have hx1 := rd_sound h hx h1 hp hg
  generalize hv' : ac.eval x = u at hx1
  have hc : ∀ v, ac.eval (.const v) = v := fun _ => rfl
  refine ⟨.bool b, ?_, .t (.bool _)⟩
  rcases hv with ⟨hy, hv⟩ | ⟨hy, hv⟩
  · rcases hu with ⟨⟨e, hu⟩, _⟩ | ⟨_, hy'⟩
    · subst hy
      rcases hv with ⟨rfl, hb⟩ | ⟨⟨k, off, rfl⟩, hb⟩ | ⟨⟨c, rfl⟩, hb⟩
      · cases hx1 with
        | t h' =>
          cases h'
          have hq : (Op.equal t (.pointer none) (.pointer none)).run P Λ.w = .ok true Λ.w := run_equal_step _ _ Λ.w true (fun n => by simp [Op.equalIn, run_underlying hu])
          cases neg <;> simp [execOp, ho, hv', hc, eqGuard, binOp, hq, hb]
      · cases hx1 with
        | @ptr bl _ _ hk' h' =>
          have hq : (Op.equal t (.pointer (some ⟨bl, off, none⟩)) (.pointer none)).run P Λ.w = .ok false Λ.w := run_equal_step _ _ Λ.w false (fun n => by simp [Op.equalIn, run_underlying hu])
          cases neg <;> simp [execOp, ho, hv', hc, eqGuard, binOp, hq, hb]
      · cases hx1 with
        | t h' =>
          cases h' with
          | ptr _ bl off vf a1 a2 a3 =>
          have hq : (Op.equal t (.pointer (some ⟨bl, off, none⟩)) (.pointer none)).run P Λ.w = .ok false Λ.w := run_equal_step _ _ Λ.w false (fun n => by simp [Op.equalIn, run_underlying hu])
          cases neg <;> simp [execOp, ho, hv', hc, eqGuard, binOp, hq, hb]
    · rw [hy] at hy'; simp at hy'
  · rcases hu with ⟨_, hy'⟩ | ⟨⟨k, e, hu⟩, _⟩
    · rw [hy] at hy'; simp at hy'
    · subst hy
      rcases hv with ⟨rfl, hb⟩ | ⟨⟨k, rfl⟩, hb⟩
      · cases hx1 with
        | t h' =>
          cases h'
          have hq : (Op.equal t (.map none) (.map none)).run P Λ.w = .ok true Λ.w := run_equal_step _ _ Λ.w true (fun n => by simp [Op.equalIn, run_underlying hu])
          cases neg <;> simp [execOp, ho, hv', hc, eqGuard, binOp, hq, hb]
      · cases hx1 with
        | @mp bl _ hk' h' =>
          have hq : (Op.equal t (.map (some bl)) (.map none)).run P Λ.w = .ok false Λ.w := run_equal_step _ _ Λ.w false (fun n => by simp [Op.equalIn, run_underlying hu])
          cases neg <;> simp [execOp, ho, hv', hc, eqGuard, binOp, hq, hb]

theorem e_pick1 {c x y : Operand} {c' x' : Ar} {cb xa : Bool} {p1 p2 : List Bool} (ho : o.op = .pick c x y) (hc : opA c = some c') (hx : opA x = some x')
    (h1 : rd gc st c' = (.t (.bool cb), p1)) (h2 : rd (gc && cb) st x' = (.t (.bool xa), p2)) (hp : ∀ q ∈ p1 ++ (p2 ++ [cb]), q) : ESound P o gc st (.t (.bool xa)) := by
  intro C Λ a _ hg h
  have hc1 := rd_sound h hc h1 (fun q hq => hp q (by simp [hq])) hg
  have ec := hc1.repT.bool_inv
  have hcb : cb = true := hp cb (by simp)
  subst hcb
  have hx1 := rd_sound h hx h2 (fun q hq => hp q (by simp [hq])) (by simp [hg])
  exact ⟨a.eval x, by simp [execOp, ho, ec, asBool], .t hx1.repT⟩

theorem e_pick2 {c x y : Operand} {c' y' : Ar} {cb xb : Bool} {p1 p3 : List Bool} (ho : o.op = .pick c x y) (hc : opA c = some c') (hy : opA y = some y')
    (h1 : rd gc st c' = (.t (.bool cb), p1)) (h3 : rd (gc && !cb) st y' = (.t (.bool xb), p3)) (hp : ∀ q ∈ p1 ++ (p3 ++ [!cb]), q) : ESound P o gc st (.t (.bool xb)) := by
  intro C Λ a _ hg h
  have hc1 := rd_sound h hc h1 (fun q hq => hp q (by simp [hq])) hg
  have ec := hc1.repT.bool_inv
  have hcb : (!cb) = true := hp (!cb) (by simp)
  have hcb' : cb = false := by simpa using hcb
  subst hcb'
  have hy1 := rd_sound h hy h3 (fun q hq => hp q (by simp [hq])) (by simp [hg])
  exact ⟨a.eval y, by simp [execOp, ho, ec, asBool], .t hy1.repT⟩

end
end Go.GB


/-
  GbJ: every operation that only computes does what its evaluation says.
-/
namespace Go.GB
section
variable {P : Program} {ops : Array Oper} {o : Oper} {gc : Bool} {st : St}

theorem e_ext {x : Operand} {ix : Nat} {x' : Ar} {vs : List V} {v : V} {p : List Bool} (ho : o.op = .extract x ix) (hx : opA x = some x') (h1 : rd gc st x' = (.tup vs, p)) (hp : ∀ q ∈ p, q) (hv : vs[ix]? = some v) : ESound P o gc st v := by
  intro C Λ ac _ hg h
  have hx1 := rd_sound h hx h1 hp hg
  generalize hv' : ac.eval x = u at hx1
  cases hx1 with
  | @tup us _ hs h' =>
    have hlt := (List.getElem?_eq_some_iff.1 hv).1
    have hg' : us[ix]? = some (us[ix]'(by omega)) := by simp
    refine ⟨_, ?_, h' _ _ v hg' hv⟩
    simp only [execOp, ho, hv']
    simp [Instr.extract, hg']

theorem evalE_sound {aop : AOp} {v : V} {ps : List Bool} (hres : resOp P ops o = some aop) (he : evalE gc st aop = some (v, ps)) (hp : ∀ q ∈ ps, q) : ESound P o gc st v := by
  unfold resOp at hres
  split at hres
  · rename_i t hop
    simp at hres; subst hres; simp only [evalE, Option.some.injEq] at he
    exact e_mv (x := .s t) (p := ps) (.inl hop) rfl he hp
  · rename_i t hop
    simp at hres; subst hres; simp only [evalE, Option.some.injEq] at he
    exact e_mv (x := .s t) (p := ps) (.inr hop) rfl he hp
  · rename_i c hop
    simp only [Option.map_eq_some_iff] at hres
    obtain ⟨x, hx, rfl⟩ := hres
    simp [evalE] at he; obtain ⟨rfl, rfl⟩ := he
    exact e_cst (.inl hop) (fun _ => .of_litV hx)
  · rename_i c hop
    simp only [Option.map_eq_some_iff] at hres
    obtain ⟨x, hx, rfl⟩ := hres
    simp [evalE] at he; obtain ⟨rfl, rfl⟩ := he
    exact e_cst (.inr hop) (fun _ => .of_litV hx)
  · rename_i f hop
    simp at hres; subst hres
    simp [evalE] at he; obtain ⟨rfl, rfl⟩ := he
    exact e_mv (v := .t (.fn f)) (x := .c (.t (.fn f))) (p := []) (.inl hop) rfl rfl (by simp)
  · rename_i f hop
    simp at hres; subst hres
    simp [evalE] at he; obtain ⟨rfl, rfl⟩ := he
    exact e_mv (v := .t (.fn f)) (x := .c (.t (.fn f))) (p := []) (.inr hop) rfl rfl (by simp)
  · -- pick
    rename_i c a b hop
    simp only [Option.bind_eq_bind, Option.bind_eq_some_iff, Option.some.injEq] at hres
    obtain ⟨c', hc, a', ha, b', hb, rfl⟩ := hres
    simp only [evalE] at he
    split at he
    · rename_i cb p1 hc1
      split at he
      · rename_i h2 h3
        simp only [Option.some.injEq, Prod.mk.injEq] at he; obtain ⟨rfl, rfl⟩ := he
        exact e_pick hop hc ha hb hc1 h2 h3 hp
      · rename_i h2 h3
        simp only [Option.some.injEq, Prod.mk.injEq] at he; obtain ⟨rfl, rfl⟩ := he
        exact e_pick1 hop hc ha hc1 h2 hp
      · rename_i h2 h3
        simp only [Option.some.injEq, Prod.mk.injEq] at he; obtain ⟨rfl, rfl⟩ := he
        exact e_pick2 hop hc hb hc1 h3 hp
      · simp at he
    · simp at he
  · -- unOp
    rename_i op ty x hop
    simp only [Option.bind_eq_bind, Option.bind_eq_some_iff, Option.some.injEq] at hres
    obtain ⟨x', hx, rfl⟩ := hres
    cases op with
    | not =>
      simp only [evalE] at he
      split at he
      · rename_i h1; simp only [Option.some.injEq, Prod.mk.injEq] at he; obtain ⟨rfl, rfl⟩ := he; exact e_not hop hx h1 hp
      · simp at he
    | neg =>
      simp only [evalE] at he
      split at he
      · rename_i h1; simp only [Option.some.injEq, Prod.mk.injEq] at he; obtain ⟨rfl, rfl⟩ := he; exact e_neg hop hx h1 hp
      · simp at he
    | _ => simp [evalE] at he
  · -- binOp
    rename_i op xt x y ty hop
    have hbin : ∀ aop, ((opA x).bind fun a => (opA y).bind fun b => some (AOp.bin op a b)) = some aop → evalE gc st aop = some (v, ps) → ESound P o gc st v := by
      intro aop h1 h2
      simp only [Option.bind_eq_some_iff, Option.some.injEq] at h1
      obtain ⟨x', hx, y', hy, rfl⟩ := h1
      simp only [evalE] at h2
      split at h2
      · rename_i a p1 b p2 e1 e2
        simp only [Option.map_eq_some_iff] at h2
        obtain ⟨⟨r, p3⟩, hb, h2⟩ := h2
        simp at h2; obtain ⟨rfl, rfl⟩ := h2
        exact e_bin hop hx hy e1 e2 hb hp
      · rename_i k p1 k' n p2 e1 e2
        split at h2
        · rename_i hk
          subst hk
          split at h2
          · simp only [Option.some.injEq, Prod.mk.injEq] at h2; obtain ⟨rfl, rfl⟩ := h2
            exact e_binU hop hx hy e1 e2 (.inl ⟨rfl, rfl⟩) hp
          · simp only [Option.some.injEq, Prod.mk.injEq] at h2; obtain ⟨rfl, rfl⟩ := h2
            exact e_binU hop hx hy e1 e2 (.inr ⟨rfl, rfl⟩) hp
          · simp at h2
        · simp at h2
      · simp at h2
    split at hres
    · exact hbin _ hres he
    · exact hbin _ hres he
    · rename_i hu
      split at hres
      · simp only [Option.bind_eq_bind, Option.bind_eq_some_iff, Option.some.injEq] at hres
        obtain ⟨x', hx, y', hy, rfl⟩ := hres
        simp only [evalE] at he
        split at he
        · rename_i e1 e2; simp only [Option.some.injEq, Prod.mk.injEq] at he; obtain ⟨rfl, rfl⟩ := he; exact e_eqb (neg := false) hu hop hx hy e1 e2 hp
        · simp at he
      · simp only [Option.bind_eq_bind, Option.bind_eq_some_iff, Option.some.injEq] at hres
        obtain ⟨x', hx, y', hy, rfl⟩ := hres
        simp only [evalE] at he
        split at he
        · rename_i e1 e2; simp only [Option.some.injEq, Prod.mk.injEq] at he; obtain ⟨rfl, rfl⟩ := he
          have := e_eqb (neg := true) hu hop hx hy e1 e2 hp
          simpa using this
        · simp at he
      · simp at hres
    · rename_i e hu
      have key : ∀ neg, o.op = .binOp (if neg then .neq else .eql) xt x (.const (.pointer none)) ty → ∀ x', opA x = some x' → evalE gc st (.eqp neg x') = some (v, ps) → ESound P o gc st v := by
        intro neg hop x' hx he
        simp only [evalE] at he
        split at he
        · simp only [Option.some.injEq, Prod.mk.injEq] at he; obtain ⟨rfl, rfl⟩ := he
          exact e_eqn (neg := neg) (.inl ⟨⟨_, hu⟩, rfl⟩) hop hx (by assumption) hp (.inl ⟨rfl, .inl ⟨rfl, rfl⟩⟩)
        · simp only [Option.some.injEq, Prod.mk.injEq] at he; obtain ⟨rfl, rfl⟩ := he
          exact e_eqn (neg := neg) (.inl ⟨⟨_, hu⟩, rfl⟩) hop hx (by assumption) hp (.inl ⟨rfl, .inr (.inl ⟨⟨_, _, rfl⟩, rfl⟩)⟩)
        · simp only [Option.some.injEq, Prod.mk.injEq] at he; obtain ⟨rfl, rfl⟩ := he
          exact e_eqn (neg := neg) (.inl ⟨⟨_, hu⟩, rfl⟩) hop hx (by assumption) hp (.inl ⟨rfl, .inr (.inr ⟨⟨_, rfl⟩, rfl⟩)⟩)
        · simp only [Option.some.injEq, Prod.mk.injEq] at he; obtain ⟨rfl, rfl⟩ := he
          exact e_eqn_f (neg := neg) hu hop hx (by assumption) hp
        · rename_i h1
          split at he
          · rename_i hk
            simp only [Option.some.injEq, Prod.mk.injEq] at he; obtain ⟨rfl, rfl⟩ := he
            exact e_eqn_g (neg := neg) hu hop hx h1 (fun q hq => hp q (by simp [hq])) hk (of_decide_eq_true (hp _ (by simp)))
          · simp at he
        · simp at he
      split at hres
      · simp only [Option.bind_eq_bind, Option.bind_eq_some_iff, Option.some.injEq] at hres
        obtain ⟨x', hx, rfl⟩ := hres
        exact key false hop x' hx he
      · simp only [Option.bind_eq_bind, Option.bind_eq_some_iff, Option.some.injEq] at hres
        obtain ⟨x', hx, rfl⟩ := hres
        exact key true hop x' hx he
      · simp at hres
    · rename_i k e hu
      have key : ∀ neg, o.op = .binOp (if neg then .neq else .eql) xt x (.const (.map none)) ty → ∀ x', opA x = some x' → evalE gc st (.eqm neg x') = some (v, ps) → ESound P o gc st v := by
        intro neg hop x' hx he
        simp only [evalE] at he
        split at he
        · simp only [Option.some.injEq, Prod.mk.injEq] at he; obtain ⟨rfl, rfl⟩ := he
          exact e_eqn (neg := neg) (.inr ⟨⟨_, _, hu⟩, rfl⟩) hop hx (by assumption) hp (.inr ⟨rfl, .inl ⟨rfl, rfl⟩⟩)
        · simp only [Option.some.injEq, Prod.mk.injEq] at he; obtain ⟨rfl, rfl⟩ := he
          exact e_eqn (neg := neg) (.inr ⟨⟨_, _, hu⟩, rfl⟩) hop hx (by assumption) hp (.inr ⟨rfl, .inr ⟨⟨_, rfl⟩, rfl⟩⟩)
        · simp at he
      split at hres
      · simp only [Option.bind_eq_bind, Option.bind_eq_some_iff, Option.some.injEq] at hres
        obtain ⟨x', hx, rfl⟩ := hres
        exact key false hop x' hx he
      · simp only [Option.bind_eq_bind, Option.bind_eq_some_iff, Option.some.injEq] at hres
        obtain ⟨x', hx, rfl⟩ := hres
        exact key true hop x' hx he
      · simp at hres
    · simp at hres
  · -- convert
    rename_i src dst x hop
    split at hres
    · rename_i k1 k hs hd
      simp only [Option.bind_eq_bind, Option.bind_eq_some_iff, Option.some.injEq] at hres
      obtain ⟨x', hx, rfl⟩ := hres
      simp only [evalE] at he
      split at he
      · rename_i h1; simp only [Option.some.injEq, Prod.mk.injEq] at he; obtain ⟨rfl, rfl⟩ := he; exact e_conv hs hd hop hx h1 hp
      · simp at he
    · rename_i hs hd
      simp only [Option.bind_eq_bind, Option.bind_eq_some_iff, Option.some.injEq] at hres
      obtain ⟨x', hx, rfl⟩ := hres
      simp only [evalE] at he
      split at he
      · rename_i h1; simp only [Option.some.injEq, Prod.mk.injEq] at he; obtain ⟨rfl, rfl⟩ := he; exact e_convs hs hd hop hx h1 hp ⟨_, rfl⟩
      · simp at he
    · simp at hres
  · -- nilCheck
    rename_i x hop
    simp only [Option.bind_eq_bind, Option.bind_eq_some_iff, Option.some.injEq] at hres
    obtain ⟨x', hx, rfl⟩ := hres
    simp only [evalE] at he
    split at he
    · rename_i h1; simp only [Option.some.injEq, Prod.mk.injEq] at he; obtain ⟨rfl, rfl⟩ := he; exact e_nilck hop hx h1 hp (.inl ⟨_, _, rfl⟩)
    · rename_i h1; simp only [Option.some.injEq, Prod.mk.injEq] at he; obtain ⟨rfl, rfl⟩ := he; exact e_nilck hop hx h1 hp (.inr (.inl ⟨_, rfl⟩))
    · rename_i h1; simp only [Option.some.injEq, Prod.mk.injEq] at he; obtain ⟨rfl, rfl⟩ := he; exact e_nilck hop hx h1 hp (.inr (.inr (.inl ⟨_, rfl⟩)))
    · rename_i h1; simp only [Option.some.injEq, Prod.mk.injEq] at he; obtain ⟨rfl, rfl⟩ := he; exact e_nilck hop hx h1 hp (.inr (.inr (.inr ⟨_, _, rfl⟩)))
    · rename_i h1; simp only [Option.some.injEq, Prod.mk.injEq] at he; obtain ⟨rfl, rfl⟩ := he; exact e_nilck_f hop hx h1 hp
    · rename_i h1
      split at he
      · rename_i hk
        simp only [Option.some.injEq, Prod.mk.injEq] at he; obtain ⟨rfl, rfl⟩ := he
        exact e_nilck_g hop hx h1 (fun q hq => hp q (by simp [hq])) hk (of_decide_eq_true (hp _ (by simp)))
      · simp at he
    · simp at he
  · -- fieldAddr
    rename_i s x f hop
    split at hres
    · rename_i fs hu
      simp only [Option.bind_eq_bind, Option.bind_eq_some_iff] at hres
      obtain ⟨fd, hf, n, hn, hres⟩ := hres
      split at hres
      · simp at hres
      · rename_i h0
        simp only [Option.bind_eq_some_iff, Option.some.injEq] at hres
        obtain ⟨x', hx, rfl⟩ := hres
        simp only [evalE] at he
        split at he
        · rename_i h1; simp only [Option.some.injEq, Prod.mk.injEq] at he; obtain ⟨rfl, rfl⟩ := he; exact e_fa hu hf hn h0 hop hx h1 hp (.inl ⟨_, _, rfl, rfl⟩)
        · rename_i h1; simp only [Option.some.injEq, Prod.mk.injEq] at he; obtain ⟨rfl, rfl⟩ := he; exact e_fa hu hf hn h0 hop hx h1 hp (.inr ⟨_, rfl, rfl⟩)
        · rename_i h1; simp only [Option.some.injEq, Prod.mk.injEq] at he; obtain ⟨rfl, rfl⟩ := he; exact e_fa_f hu hf hn h0 hop hx h1 hp
        · rename_i h1
          split at he
          · rename_i hk
            simp only [Option.some.injEq, Prod.mk.injEq] at he; obtain ⟨rfl, rfl⟩ := he
            exact e_fa_g hu hf hn h0 hop hx h1 (fun q hq => hp q (by simp [hq])) hk (of_decide_eq_true (hp _ (by simp)))
          · simp at he
        · simp at he
    · simp at hres
  · -- load
    rename_i t x hop
    simp only [Option.bind_eq_bind, Option.bind_eq_some_iff] at hres
    obtain ⟨n, hn, hres⟩ := hres
    split at hres
    · simp at hres
    · rename_i d hu
      split at hres
      · rename_i hag
        simp only [Option.bind_eq_some_iff, Option.some.injEq] at hres
        obtain ⟨x', hx, rfl⟩ := hres
        simp only [evalE, if_true] at he
        split at he
        · rename_i h1
          split at he
          · rename_i hle; simp only [Option.some.injEq, Prod.mk.injEq] at he; obtain ⟨rfl, rfl⟩ := he; exact e_ld_vpa hn hag hop hx h1 hp hle
          · simp at he
        · rename_i h1
          split at he
          · rename_i hk
            split at he
            · rename_i hle; simp only [Option.some.injEq, Prod.mk.injEq] at he; obtain ⟨rfl, rfl⟩ := he; exact e_ld_ptra hn hag hop hx h1 hp hk hle
            · simp at he
          · simp at he
        · rename_i h1
          split at he
          · rename_i hk
            split at he
            · rename_i hle; simp only [Option.some.injEq, Prod.mk.injEq] at he; obtain ⟨rfl, rfl⟩ := he
              exact e_ld_ga hn hag hop hx h1 (fun q hq => hp q (by simp [hq])) hk (of_decide_eq_true (hp _ (by simp))) hle
            · simp at he
          · simp at he
        · rename_i h1
          split at he
          · rename_i hk
            split at he
            · rename_i hi
              split at he
              · rename_i hle; simp only [Option.some.injEq, Prod.mk.injEq] at he; obtain ⟨rfl, rfl⟩ := he
                exact e_ld_fa hn hag hop hx h1 hp hk hi hle
              · simp at he
            · simp at he
          · simp at he
        · simp at he
      · rename_i hag
        have hag' : isAggT P t = false := by simpa using hag
        simp only [Option.bind_eq_some_iff, Option.some.injEq] at hres
        obtain ⟨x', hx, rfl⟩ := hres
        simp only [evalE, Bool.false_eq_true, if_false] at he
        split at he
        · rename_i h1
          split at he
          · rename_i hc; simp only [Option.some.injEq, Prod.mk.injEq] at he; obtain ⟨rfl, rfl⟩ := he; exact e_ld_vp hu hag' hop hx h1 hp hc
          · simp at he
        · rename_i h1
          split at he
          · rename_i hk
            split at he
            · rename_i hc; simp only [Option.some.injEq, Prod.mk.injEq] at he; obtain ⟨rfl, rfl⟩ := he; exact e_ld_ptr hu hag' hop hx h1 hp hk hc
            · simp at he
          · simp at he
        · rename_i h1
          split at he
          · rename_i hk
            split at he
            · rename_i hc; simp only [Option.some.injEq, Prod.mk.injEq] at he; obtain ⟨rfl, rfl⟩ := he
              exact e_ld_g hu hag' hop hx h1 (fun q hq => hp q (by simp [hq])) hk (of_decide_eq_true (hp _ (by simp))) hc
            · simp at he
          · simp at he
        · rename_i h1
          split at he
          · rename_i hk
            split at he
            · rename_i hi
              split at he
              · rename_i hc; simp only [Option.some.injEq, Prod.mk.injEq] at he; obtain ⟨rfl, rfl⟩ := he
                exact e_ld_f hu hag' hop hx h1 hp hk hi hc
              · simp at he
            · simp at he
          · simp at he
        · simp at he
  · -- store
    simp only [Option.bind_eq_bind, Option.bind_eq_some_iff, Option.some.injEq] at hres
    obtain ⟨_, _, _, _, _, _, rfl⟩ := hres
    simp [evalE] at he
  · -- indexAddr
    rename_i t x ix hop
    split at hres
    · rename_i e hu
      simp only [Option.bind_eq_bind, Option.bind_eq_some_iff, Option.some.injEq] at hres
      obtain ⟨sz, hs, x', hx, i', hi, rfl⟩ := hres
      simp only [evalE] at he
      split at he
      · rename_i w p1 k n p2 h1 h2
        split at he
        · split at he
          · rename_i hsz; subst hsz; simp only [Option.some.injEq, Prod.mk.injEq] at he; obtain ⟨rfl, rfl⟩ := he; exact e_ia_slc hu hs hop hx hi h1 h2 hp
          · simp at he
        · split at he
          · rename_i hk
            split at he
            · rename_i hsz; subst hsz; simp only [Option.some.injEq, Prod.mk.injEq] at he; obtain ⟨rfl, rfl⟩ := he; exact e_ia_g hu hs hop hx hi h1 h2 hk hp
            · simp at he
          · simp at he
        · split at he
          · rename_i hv
            split at he
            · rename_i hc
              split at he
              · rename_i hsz; simp only [Option.some.injEq, Prod.mk.injEq] at he; obtain ⟨rfl, rfl⟩ := he; exact e_ia hu hs hop hx hi h1 h2 hv hc hsz hp
              · simp at he
            · simp at he
          · simp at he
      · simp at he
    · rename_i m e hu
      simp only [Option.bind_eq_bind, Option.bind_eq_some_iff, Option.some.injEq] at hres
      obtain ⟨sz, hs, x', hx, i', hi, rfl⟩ := hres
      simp only [evalE] at he
      split at he
      · rename_i h1 h2; simp only [Option.some.injEq, Prod.mk.injEq] at he; obtain ⟨rfl, rfl⟩ := he; exact e_iarr hu hs hop hx hi h1 h2 hp (.inl ⟨_, _, rfl, rfl⟩)
      · rename_i h1 h2; simp only [Option.some.injEq, Prod.mk.injEq] at he; obtain ⟨rfl, rfl⟩ := he; exact e_iarr hu hs hop hx hi h1 h2 hp (.inr ⟨_, rfl, rfl⟩)
      · simp at he
    · simp at hres
  · -- index
    rename_i t x ix hop
    split at hres
    · rename_i hu
      simp only [Option.bind_eq_bind, Option.bind_eq_some_iff, Option.some.injEq] at hres
      obtain ⟨x', hx, i', hi, rfl⟩ := hres
      simp only [evalE] at he
      split at he
      · rename_i h1 h2
        split at he
        · rename_i hb; simp only [Option.some.injEq, Prod.mk.injEq] at he; obtain ⟨rfl, rfl⟩ := he; exact e_ixs hu hop hx hi h1 h2 hb hp
        · simp at he
      · simp at he
    · rename_i m e hu
      split at hres
      · simp at hres
      · rename_i d hd
        simp only [Option.bind_eq_bind, Option.bind_eq_some_iff, Option.some.injEq] at hres
        obtain ⟨sz, hs, x', hx, i', hi, rfl⟩ := hres
        simp only [evalE] at he
        split at he
        · rename_i h1 h2
          split at he
          · rename_i hag
            split at he
            · rename_i hle; simp only [Option.some.injEq, Prod.mk.injEq] at he; obtain ⟨rfl, rfl⟩ := he; exact e_ixaa hu hs hag hop hx hi h1 h2 hle hp
            · simp at he
          · rename_i hag
            split at he
            · rename_i hc; simp only [Option.some.injEq, Prod.mk.injEq] at he; obtain ⟨rfl, rfl⟩ := he; exact e_ixa hu hs hd (by simpa using hag) hop hx hi h1 h2 hc hp
            · simp at he
        · simp at he
    · simp at hres
  · -- slice
    rename_i t x lo hi hop
    split at hres
    · rename_i hu
      simp only [Option.bind_eq_bind, Option.bind_eq_some_iff, Option.some.injEq] at hres
      obtain ⟨l', hl, h', hh, x', hx, rfl⟩ := hres
      simp only [evalE] at he
      split at he
      · rename_i h1
        split at he
        · rename_i h2 h3; simp only [Option.some.injEq, Prod.mk.injEq] at he; obtain ⟨rfl, rfl⟩ := he; exact e_sls hu hop hx hl hh h1 h2 h3 hp
        · simp at he
      · simp at he
    · rename_i e hu
      simp only [Option.bind_eq_bind, Option.bind_eq_some_iff, Option.some.injEq] at hres
      obtain ⟨l', hl, h', hh, sz, hs, x', hx, rfl⟩ := hres
      simp only [evalE] at he
      generalize hr : rd gc st x' = r at he
      obtain ⟨v', p'⟩ := r
      simp only at he
      split at he
      · rename_i h1
        split at he
        · rename_i h2 h3; simp only [Option.some.injEq, Prod.mk.injEq] at he; obtain ⟨rfl, rfl⟩ := he; exact e_sll hu hs hop hx hl hh hr h1 h2 h3 hp
        · simp at he
      · split at he
        · split at he
          · rename_i h2 h3; simp only [Option.some.injEq, Prod.mk.injEq] at he; obtain ⟨rfl, rfl⟩ := he; exact e_slc hu hs hop hx hl hh hr h2 h3 hp
          · simp at he
        · split at he
          · rename_i hk h2 h3; simp only [Option.some.injEq, Prod.mk.injEq] at he; obtain ⟨rfl, rfl⟩ := he; exact e_slg hu hs hop hx hl hh hr h2 h3 hp hk
          · simp at he
        · simp at he
    · simp at hres
  · -- field
    rename_i t x f hop
    split at hres
    · rename_i fs hu
      simp only [Option.bind_eq_bind, Option.bind_eq_some_iff] at hres
      obtain ⟨fd, hf, n, hn, hres⟩ := hres
      split at hres
      · simp at hres
      · rename_i d hd
        simp only [Option.bind_eq_some_iff, Option.some.injEq] at hres
        obtain ⟨x', hx, rfl⟩ := hres
        simp only [evalE] at he
        split at he
        · rename_i h1
          split at he
          · rename_i hag
            split at he
            · rename_i hle; simp only [Option.some.injEq, Prod.mk.injEq] at he; obtain ⟨rfl, rfl⟩ := he; exact e_flda hu hf hn hag hop hx h1 hp hle
            · simp at he
          · rename_i hag
            split at he
            · rename_i hc; simp only [Option.some.injEq, Prod.mk.injEq] at he; obtain ⟨rfl, rfl⟩ := he; exact e_fld hu hf hd (by simpa using hag) hop hx h1 hp hc
            · simp at he
        · simp at he
    · simp at hres
  · -- build
    rename_i t parts hop
    split at hres
    · rename_i fs hu
      simp only [Option.bind_eq_bind, Option.bind_eq_some_iff, Option.some.injEq] at hres
      obtain ⟨pl, hpl, zs, hz, ps', hps, rfl⟩ := hres
      simp only [evalE] at he
      split at he
      · rename_i hf; simp only [Option.some.injEq, Prod.mk.injEq] at he; obtain ⟨rfl, rfl⟩ := he; exact e_build hop hz (.inl ⟨fs, pl, hu, hpl, hps⟩) hf hp
      · simp at he
    · rename_i m e hu
      simp only [Option.bind_eq_bind, Option.bind_eq_some_iff, Option.some.injEq] at hres
      obtain ⟨sz, hs, zs, hz, ps', hps, rfl⟩ := hres
      simp only [evalE] at he
      split at he
      · rename_i hf; simp only [Option.some.injEq, Prod.mk.injEq] at he; obtain ⟨rfl, rfl⟩ := he; exact e_build hop hz (.inr ⟨m, e, sz, hu, hs, hps⟩) hf hp
      · simp at he
    · simp at hres
  · -- makeFunc
    rename_i f first caps hop
    split at hres
    · rename_i hfirst
      simp only [Option.bind_eq_bind, Option.bind_eq_some_iff, Option.some.injEq] at hres
      obtain ⟨caps', hc, rfl⟩ := hres
      simp only [evalE] at he
      split at he
      · rename_i hcs; simp only [Option.some.injEq, Prod.mk.injEq] at he; obtain ⟨rfl, rfl⟩ := he; exact e_mkfn hop hfirst hc hcs
      · simp at he
    · simp at hres
  · simp only [Option.bind_eq_bind, Option.bind_eq_some_iff, Option.some.injEq] at hres
    obtain ⟨_, _, rfl⟩ := hres
    simp [evalE] at he
  · simp only [Option.bind_eq_bind, Option.bind_eq_some_iff, Option.some.injEq] at hres
    obtain ⟨_, _, _, _, rfl⟩ := hres
    simp [evalE] at he
  · split at hres
    · simp only [Option.bind_eq_bind, Option.bind_eq_some_iff] at hres
      obtain ⟨_, _, _, _, _, _, hres⟩ := hres
      split at hres
      · simp only [Option.bind_eq_some_iff, Option.some.injEq] at hres
        obtain ⟨_, _, rfl⟩ := hres
        simp [evalE] at he
      · simp at hres
    · simp at hres
  · -- extract
    rename_i x ix hop
    simp only [Option.bind_eq_bind, Option.bind_eq_some_iff, Option.some.injEq] at hres
    obtain ⟨x', hx, rfl⟩ := hres
    simp only [evalE] at he
    split at he
    · rename_i h1
      split at he
      · rename_i hv; simp only [Option.some.injEq, Prod.mk.injEq] at he; obtain ⟨rfl, rfl⟩ := he; exact e_ext hop hx h1 hp hv
      · simp at he
    · simp at he
  · split at hres
    · simp at hres; subst hres; simp [evalE] at he
    · simp at hres
  · split at hres
    · simp only [Option.bind_eq_bind, Option.bind_eq_some_iff] at hres
      obtain ⟨_, _, hres⟩ := hres
      split at hres
      · simp only [Option.bind_eq_some_iff, Option.some.injEq] at hres
        obtain ⟨_, _, rfl⟩ := hres
        simp [evalE] at he
      · simp at hres
    · simp at hres
  · -- len
    rename_i args ats hop
    split at hres
    · rename_i t x hat ha
      split at hres
      · rename_i hu
        simp only [Option.bind_eq_bind, Option.bind_eq_some_iff, Option.some.injEq] at hres
        obtain ⟨x', hx, rfl⟩ := hres
        simp only [evalE] at he
        split at he
        · rename_i h1; simp only [Option.some.injEq, Prod.mk.injEq] at he; obtain ⟨rfl, rfl⟩ := he; exact e_len ha hat hu (.inl rfl) hop hx h1 hp (.inl ⟨rfl, _, rfl, rfl⟩)
        · simp at he
      · rename_i hu
        simp only [Option.bind_eq_bind, Option.bind_eq_some_iff, Option.some.injEq] at hres
        obtain ⟨x', hx, rfl⟩ := hres
        simp only [evalE] at he
        split at he
        · rename_i h1; simp only [Option.some.injEq, Prod.mk.injEq] at he; obtain ⟨rfl, rfl⟩ := he; exact e_len ha hat hu (.inr ⟨_, rfl⟩) hop hx h1 hp (.inr ⟨⟨_, rfl⟩, .inl ⟨_, rfl, rfl⟩⟩)
        · rename_i h1; simp only [Option.some.injEq, Prod.mk.injEq] at he; obtain ⟨rfl, rfl⟩ := he; exact e_len ha hat hu (.inr ⟨_, rfl⟩) hop hx h1 hp (.inr ⟨⟨_, rfl⟩, .inl ⟨_, rfl, rfl⟩⟩)
        · rename_i h1; simp only [Option.some.injEq, Prod.mk.injEq] at he; obtain ⟨rfl, rfl⟩ := he; exact e_len (n := 0) ha hat hu (.inr ⟨_, rfl⟩) hop hx h1 hp (.inr ⟨⟨_, rfl⟩, .inl ⟨[], rfl, rfl⟩⟩)
        · rename_i h1; simp only [Option.some.injEq, Prod.mk.injEq] at he; obtain ⟨rfl, rfl⟩ := he; exact e_len ha hat hu (.inr ⟨_, rfl⟩) hop hx h1 hp (.inr ⟨⟨_, rfl⟩, .inr ⟨_, _, _, rfl⟩⟩)
        · rename_i h1
          split at he
          · rename_i hk
            simp only [Option.some.injEq, Prod.mk.injEq] at he; obtain ⟨rfl, rfl⟩ := he
            exact e_len_g ha hat hu hop hx h1 (fun q hq => hp q (by simp [hq])) hk (of_decide_eq_true (hp _ (by simp)))
          · simp at he
        · rename_i h1; simp only [Option.some.injEq, Prod.mk.injEq] at he; obtain ⟨rfl, rfl⟩ := he; exact e_len ha hat hu (.inr ⟨_, rfl⟩) hop hx h1 hp (.inr ⟨⟨_, rfl⟩, .inl ⟨_, rfl, rfl⟩⟩)
        · simp at he
      · simp only [Option.bind_eq_bind, Option.bind_eq_some_iff, Option.some.injEq] at hres
        obtain ⟨_, _, rfl⟩ := hres
        simp [evalE] at he
      · simp at hres
    · simp at hres
  · -- max
    rename_i args _ hop
    split at hres
    · rename_i x y ha
      simp only [Option.bind_eq_bind, Option.bind_eq_some_iff, Option.some.injEq] at hres
      obtain ⟨x', hx, y', hy, rfl⟩ := hres
      simp only [evalE] at he
      split at he
      · rename_i h1 h2
        split at he
        · rename_i hk; subst hk; simp only [Option.some.injEq, Prod.mk.injEq] at he; obtain ⟨rfl, rfl⟩ := he; exact e_max (b := true) ha hop hx hy h1 h2 hp
        · simp at he
      · simp at he
    · simp at hres
  · -- min
    rename_i args _ hop
    split at hres
    · rename_i x y ha
      simp only [Option.bind_eq_bind, Option.bind_eq_some_iff, Option.some.injEq] at hres
      obtain ⟨x', hx, y', hy, rfl⟩ := hres
      simp only [evalE] at he
      split at he
      · rename_i h1 h2
        split at he
        · rename_i hk; subst hk; simp only [Option.some.injEq, Prod.mk.injEq] at he; obtain ⟨rfl, rfl⟩ := he
          have := e_max (P := P) (b := false) ha hop hx hy h1 h2 hp
          simpa using this
        · simp at he
      · simp at he
    · simp at hres
  · split at hres
    · split at hres
      · split at hres
        · simp only [Option.bind_eq_bind, Option.bind_eq_some_iff] at hres
          obtain ⟨_, _, _, _, hres⟩ := hres
          split at hres
          · simp at hres
          · simp only [Option.bind_eq_some_iff, Option.some.injEq] at hres
            obtain ⟨_, _, _, _, rfl⟩ := hres
            simp [evalE] at he
        · simp at hres
      · simp at hres
    · simp at hres
  · split at hres
    · cases hres
    · simp only [Option.bind_eq_bind, Option.bind_eq_some_iff, Option.some.injEq] at hres
      obtain ⟨_, _, rfl⟩ := hres
      simp [evalE] at he
  · simp only [Option.bind_eq_bind, Option.bind_eq_some_iff, Option.some.injEq] at hres
    obtain ⟨_, _, rfl⟩ := hres
    simp [evalE] at he
  · split at hres
    · simp only [Option.bind_eq_bind, Option.bind_eq_some_iff, Option.some.injEq] at hres
      obtain ⟨_, _, rfl⟩ := hres
      simp [evalE] at he
    · simp at hres
  · simp at hres

end
end Go.GB


/-
  GbK: steps that change memory: new blocks, cells written, arrays grown; what is kept.
-/
namespace Go.GB

def relab (l : Nat → Lab) (b : Nat) (x : Lab) : Nat → Lab := fun b' => if b' = b then x else l b'
def refro (f : Nat → Nat) (k n : Nat) : Nat → Nat := fun k' => if k' = k then n else f k'

theorem relab_same {l : Nat → Lab} {b : Nat} {x : Lab} : relab l b x b = x := by simp [relab]
theorem relab_ne {l : Nat → Lab} {b b' : Nat} {x : Lab} (h : b' ≠ b) : relab l b x b' = l b' := by simp [relab, h]
theorem refro_same {f : Nat → Nat} {k n : Nat} : refro f k n k = n := by simp [refro]
theorem refro_ne {f : Nat → Nat} {k k' n : Nat} (h : k' ≠ k) : refro f k n k' = f k' := by simp [refro, h]

/-- w' is w with one block more -/
structure Grew (w w' : World) (o : Obj) : Prop where
  os : w'.os = w.os
  tape : w'.tape = w.tape
  output : w'.output = w.output
  heap : w'.heap = w.heap.push o

theorem Grew.size {w w' : World} {o : Obj} (g : Grew w w' o) : w'.heap.size = w.heap.size + 1 := by rw [g.heap]; simp
theorem Grew.old {w w' : World} {o : Obj} (g : Grew w w' o) {b : Nat} (h : b < w.heap.size) : w'.heap[b]? = w.heap[b]? := by
  rw [g.heap, Array.getElem?_push]; simp; omega
theorem Grew.top {w w' : World} {o : Obj} (g : Grew w w' o) : w'.heap[w.heap.size]? = some o := by rw [g.heap]; simp
theorem Grew.alloc (w : World) (o : Obj) : Grew w (w.alloc o) o := ⟨rfl, rfl, rfl, rfl⟩
theorem Grew.drewAlloc (w : World) (o : Obj) : Grew w (w.drew.alloc o) o := ⟨rfl, rfl, rfl, rfl⟩

/-- families and growing arrays stay as they are -/
structure FKeep (Λ Λ' : L) : Prop where
  fob : ∀ b k i, Λ'.lab b = .fob k i ↔ Λ.lab b = .fob k i
  far : ∀ b k i n, Λ'.lab b = .far k i n ↔ Λ.lab b = .far k i n
  frf : Λ'.frf = Λ.frf
  hob : ∀ b k i, Λ.lab b = .fob k i → Λ'.w.heap[b]? = Λ.w.heap[b]?
  har : ∀ b k i n, b < Λ.w.heap.size → Λ.lab b = .far k i n → Λ'.w.heap[b]? = Λ.w.heap[b]?
theorem FKeep.refl (Λ : L) : FKeep Λ Λ := ⟨fun _ _ _ => Iff.rfl, fun _ _ _ _ => Iff.rfl, rfl, fun _ _ _ _ => rfl, fun _ _ _ _ _ _ => rfl⟩
theorem FKeep.trans {A B C : L} (h : FKeep A B) (k : FKeep B C) (hs : A.w.heap.size ≤ B.w.heap.size) : FKeep A C :=
  ⟨fun b j i => (k.fob b j i).trans (h.fob b j i), fun b j i n => (k.far b j i n).trans (h.far b j i n), k.frf.trans h.frf, fun b j i e => (k.hob b j i ((h.fob b j i).2 e)).trans (h.hob b j i e),
    fun b j i n hb e => (k.har b j i n (Nat.lt_of_lt_of_le hb hs) ((h.far b j i n).2 e)).trans (h.har b j i n hb e)⟩
theorem Kp.old {Λ Λ' : L} (F : FKeep Λ Λ') (os : Λ'.w.os = Λ.w.os) (tape : Λ'.w.tape = Λ.w.tape) (output : Λ'.w.output = Λ.w.output) (size : Λ.w.heap.size ≤ Λ'.w.heap.size)
    (fix : ∀ b, b < Λ.w.heap.size → ∀ fr, Λ.lab b = .fix fr → Λ'.lab b = .fix fr ∧ Λ'.w.heap[b]? = Λ.w.heap[b]?)
    (arr : ∀ b, b < Λ.w.heap.size → ∀ k fr, Λ.lab b = .arr k fr → ∀ o, o < fr → Rd Λ'.lab b o ∧ Λ'.w.cell? ⟨b, o, none⟩ = Λ.w.cell? ⟨b, o, none⟩)
    (nxt : Λ.nxt ≤ Λ'.nxt) (obj : ∀ b k, k < Λ.nxt → Λ.lab b = .obj k → Λ'.lab b = .obj k)
    (own : ∀ b k n, k < Λ.nxt → b < Λ.w.heap.size → Λ.lab b = .arr k n → Λ'.fro k = Λ.fro k → Λ'.lab b = .arr k n ∧ Λ'.w.heap[b]? = Λ.w.heap[b]?)
    (fro : ∀ k, k < Λ.nxt → Λ.fro k ≤ Λ'.fro k) : Kp Λ Λ' :=
  ⟨⟨os, tape, output, size, fix, arr, fun b hb k i fr hl o ho => ⟨by simp [Rd, (F.far b k i fr).2 hl, ho], cell?_heap (F.har b k i fr hb hl)⟩⟩, nxt, obj, own, fro,
    fun b k i _ hl => ⟨(F.fob b k i).2 hl, fun N hN => by unfold rowSize at hN ⊢; rw [F.hob b k i hl]; exact hN⟩,
    fun b k i n _ hb hl _ => ⟨(F.far b k i n).2 hl, F.har b k i n hb hl⟩, fun k i _ => by rw [F.frf]; exact Nat.le_refl _, fun b k i _ _ _ hl => (F.fob b k i).1 hl⟩
/-- a label of the older kinds -/
def Lab.old : Lab → Bool
  | .fob _ _ => false
  | .far _ _ _ => false
  | _ => true
/-- one label of the older kinds is set -/
theorem FKeep.relabel {Λ Λ' : L} {b : Nat} {X : Lab} (hl : Λ'.lab = GB.relab Λ.lab b X) (hX : X.old = true) (hb : (Λ.lab b).old = true) (hf : Λ'.frf = Λ.frf)
    (hh : ∀ c, c < Λ.w.heap.size → c ≠ b → Λ'.w.heap[c]? = Λ.w.heap[c]?) (hn : ∀ c, Λ.w.heap.size ≤ c → Λ.lab c = .fix none) : FKeep Λ Λ' := by
  have lt : ∀ {c : Nat}, Λ.lab c ≠ .fix none → c < Λ.w.heap.size := fun {c} h => by
    rcases Nat.lt_or_ge c Λ.w.heap.size with h' | h'
    · exact h'
    · exact absurd (hn c h') h
  refine ⟨fun c k i => ?_, fun c k i n => ?_, hf, fun c k i e => ?_, fun c k i n _ e => ?_⟩
  · rw [hl]
    by_cases e : c = b
    · subst e; rw [relab_same]
      exact ⟨fun h => by rw [h] at hX; simp [Lab.old] at hX, fun h => by rw [h] at hb; simp [Lab.old] at hb⟩
    · rw [relab_ne e]
  · rw [hl]
    by_cases e : c = b
    · subst e; rw [relab_same]
      exact ⟨fun h => by rw [h] at hX; simp [Lab.old] at hX, fun h => by rw [h] at hb; simp [Lab.old] at hb⟩
    · rw [relab_ne e]
  · exact hh c (lt (by rw [e]; simp)) (fun e' => by subst e'; rw [e] at hb; simp [Lab.old] at hb)
  · exact hh c (lt (by rw [e]; simp)) (fun e' => by subst e'; rw [e] at hb; simp [Lab.old] at hb)
/-- the labels stay, the cells of one block of the older kinds are written -/
theorem FKeep.same {Λ Λ' : L} {b : Nat} (hl : Λ'.lab = Λ.lab) (hb : (Λ.lab b).old = true) (hf : Λ'.frf = Λ.frf) (hh : ∀ c, c ≠ b → Λ'.w.heap[c]? = Λ.w.heap[c]?) : FKeep Λ Λ' := by
  refine ⟨fun c k i => by rw [hl], fun c k i n => by rw [hl], hf, fun c k i e => hh c ?_, fun c k i n _ e => hh c ?_⟩ <;> (rintro rfl; rw [e] at hb; simp [Lab.old] at hb)

/-- a new block; the length of one array may grow, whose block (if any) has been relabelled before -/
theorem FKeep.new {Λ : L} {w' : World} {o : Obj} (g : Grew Λ.w w' o) (hb : ∀ b, Λ.w.heap.size ≤ b → Λ.lab b = .fix none) (X : Lab) (hX : X.old = true) :
    FKeep Λ { Λ with lab := relab Λ.lab Λ.w.heap.size X, w := w' } :=
  FKeep.relabel rfl hX (by rw [hb _ (Nat.le_refl _)]; rfl) rfl (fun c hc _ => g.old hc) hb
theorem Kp.new {Λ : L} {w' : World} {o : Obj} (g : Grew Λ.w w' o) (hb : ∀ b, Λ.w.heap.size ≤ b → Λ.lab b = .fix none) (X : Lab) (hX : X.old = true := by rfl) :
    Kp Λ { Λ with lab := relab Λ.lab Λ.w.heap.size X, w := w' } := by
  have hne : ∀ {b : Nat}, b < Λ.w.heap.size → relab Λ.lab Λ.w.heap.size X b = Λ.lab b := fun h => relab_ne (by omega)
  refine Kp.old (FKeep.new g hb X hX) g.os g.tape g.output (by rw [g.size]; omega) (fun b h fr hl => ⟨by simp only [hne h]; exact hl, g.old h⟩) (fun b h k fr hl o ho => ⟨?_, cell?_heap (g.old h)⟩) (Nat.le_refl _) (fun b k _ hl => ?_) (fun b k n _ h hl _ => ⟨by simp only [hne h]; exact hl, g.old h⟩) (fun k _ => Nat.le_refl _)
  · simp only [Rd, hne h, hl]; exact ho
  · have : b < Λ.w.heap.size := by
      rcases Nat.lt_or_ge b Λ.w.heap.size with h | h
      · exact h
      · rw [hb b h] at hl; simp at hl
    simp only [hne this]; exact hl

/-- an array's length is set: nothing else -/
theorem FKeep.refro {Λ : L} {k n : Nat} : FKeep Λ { Λ with fro := GB.refro Λ.fro k n } := ⟨fun _ _ _ => Iff.rfl, fun _ _ _ _ => Iff.rfl, rfl, fun _ _ _ _ => rfl, fun _ _ _ _ _ _ => rfl⟩
theorem Kp.refro {Λ : L} {k n : Nat} (hn : Λ.fro k ≤ n) : Kp Λ { Λ with fro := refro Λ.fro k n } := by
  refine ⟨Fr.refl _ _, Nat.le_refl _, fun _ _ _ h => h, fun b j m _ _ hl _ => ⟨hl, rfl⟩, fun j _ => ?_, fun _ _ _ _ h => ⟨h, fun _ h => h⟩, fun _ _ _ _ _ _ h _ => ⟨h, rfl⟩, fun _ _ _ => Nat.le_refl _, fun _ _ _ _ _ _ h => h⟩
  by_cases e : j = k
  · subst e; simp [GB.refro, hn]
  · simp [GB.refro, e]

/-- an array is left: its block stays as it is, its name has grown longer -/
theorem FKeep.left {Λ : L} {b k fr n : Nat} (hb : Λ.lab b = .arr k fr) : FKeep Λ { Λ with lab := relab Λ.lab b (.fix (some fr)), fro := GB.refro Λ.fro k n } := by
  refine ⟨fun c j i => ?_, fun c j i m => ?_, rfl, fun _ _ _ _ => rfl, fun _ _ _ _ _ _ => rfl⟩
  · by_cases e : c = b
    · subst e; simp [relab_same, hb]
    · simp only [relab_ne e]
  · by_cases e : c = b
    · subst e; simp [relab_same, hb]
    · simp only [relab_ne e]
theorem Kp.left {Λ : L} {b k fr n : Nat} (hb : Λ.lab b = .arr k fr) (hn : Λ.fro k < n) :
    Kp Λ { Λ with lab := relab Λ.lab b (.fix (some fr)), fro := GB.refro Λ.fro k n } := by
  refine Kp.old (FKeep.left hb) rfl rfl rfl (Nat.le_refl _) (fun c _ f hl => ⟨?_, rfl⟩) (fun c _ j f hl o ho => ⟨?_, rfl⟩) (Nat.le_refl _) (fun c j _ hl => ?_) (fun c j m _ _ hl hf => ?_) (fun j _ => ?_)
  · have : c ≠ b := by rintro rfl; rw [hb] at hl; simp at hl
    simp only [relab_ne this]; exact hl
  · by_cases e : c = b
    · subst e; rw [hb] at hl; simp at hl; obtain ⟨rfl, rfl⟩ := hl; simp [Rd, relab, ho]
    · simp only [Rd, relab_ne e, hl]; exact ho
  · have : c ≠ b := by rintro rfl; rw [hb] at hl; simp at hl
    simp only [relab_ne this]; exact hl
  · by_cases e : j = k
    · subst e; simp [GB.refro] at hf; omega
    · have : c ≠ b := by rintro rfl; rw [hb] at hl; simp at hl; exact e hl.1.symm
      exact ⟨by simp only [relab_ne this]; exact hl, rfl⟩
  · by_cases e : j = k
    · subst e; simp [GB.refro]; omega
    · simp [GB.refro, e]

/-- a block's cells are written: an object's, or behind an array's end -/
structure Wrote (w w' : World) (b : Nat) : Prop where
  os : w'.os = w.os
  tape : w'.tape = w.tape
  output : w'.output = w.output
  size : w'.heap.size = w.heap.size
  old : ∀ c, c ≠ b → w'.heap[c]? = w.heap[c]?

theorem Wrote.setRow (w : World) (b : Nat) (cs : Array Value) : Wrote w (w.setRow b cs) b := ⟨rfl, rfl, rfl, by simp, fun c hc => setRow_other w b c cs hc⟩

theorem FKeep.wrote {Λ : L} {w' : World} {b k : Nat} (g : Wrote Λ.w w' b) (hb : Λ.lab b = .obj k) : FKeep Λ { Λ with w := w' } :=
  FKeep.same (b := b) rfl (by rw [hb]; rfl) rfl fun c hc => g.old c hc
theorem Kp.wrote {Λ : L} {w' : World} {b k : Nat} (g : Wrote Λ.w w' b) (hb : Λ.lab b = .obj k) : Kp Λ { Λ with w := w' } := by
  have hne : ∀ {c : Nat} {x : Lab}, Λ.lab c = x → (∀ j, x ≠ .obj j) → c ≠ b := fun h hx e => hx k (by rw [← h, e, hb])
  exact Kp.old (FKeep.wrote g hb) g.os g.tape g.output (by rw [g.size]; exact Nat.le_refl _) (fun c _ fr hl => ⟨hl, g.old c (hne hl (by simp))⟩) (fun c _ j fr hl o ho => ⟨by simp [Rd, hl, ho], cell?_heap (g.old c (hne hl (by simp)))⟩) (Nat.le_refl _) (fun _ _ _ h => h) (fun c j n _ _ hl _ => ⟨hl, g.old c (hne hl (by simp))⟩) (fun _ _ => Nat.le_refl _)

theorem FKeep.grown {Λ : L} {w' : World} {b k fr fr' n : Nat} (g : Wrote Λ.w w' b) (hb : Λ.lab b = .arr k fr) : FKeep Λ { Λ with lab := relab Λ.lab b (.arr k fr'), fro := GB.refro Λ.fro k n, w := w' } := by
  refine ⟨fun c j i => ?_, fun c j i m => ?_, rfl, fun c j i e => g.old c ?_, fun c j i m _ e => g.old c ?_⟩
  · by_cases e : c = b
    · subst e; simp [relab_same, hb]
    · simp only [relab_ne e]
  · by_cases e : c = b
    · subst e; simp [relab_same, hb]
    · simp only [relab_ne e]
  · rintro rfl; rw [hb] at e; simp at e
  · rintro rfl; rw [hb] at e; simp at e
theorem Kp.grown {Λ : L} {w' : World} {b k fr fr' n : Nat} (g : Wrote Λ.w w' b) (hb : Λ.lab b = .arr k fr) (hfr : fr ≤ fr') (hc : ∀ o, o < fr → w'.cell? ⟨b, o, none⟩ = Λ.w.cell? ⟨b, o, none⟩) (hn : Λ.fro k < n) :
    Kp Λ { Λ with lab := relab Λ.lab b (.arr k fr'), fro := GB.refro Λ.fro k n, w := w' } := by
  refine Kp.old (FKeep.grown g hb) g.os g.tape g.output (by rw [g.size]; exact Nat.le_refl _) (fun c _ f hl => ?_) (fun c _ j f hl o ho => ?_) (Nat.le_refl _) (fun c j _ hl => ?_) (fun c j m _ _ hl hf => ?_) (fun j _ => ?_)
  · have : c ≠ b := by rintro rfl; rw [hb] at hl; simp at hl
    exact ⟨by simp only [relab_ne this]; exact hl, g.old c this⟩
  · by_cases e : c = b
    · subst e; rw [hb] at hl; simp at hl; obtain ⟨rfl, rfl⟩ := hl
      exact ⟨by simp [Rd, relab]; omega, hc o ho⟩
    · exact ⟨by simp only [Rd, relab_ne e, hl]; exact ho, cell?_heap (g.old c e)⟩
  · have : c ≠ b := by rintro rfl; rw [hb] at hl; simp at hl
    simp only [relab_ne this]; exact hl
  · by_cases e : j = k
    · subst e; simp [GB.refro] at hf; omega
    · have : c ≠ b := by rintro rfl; rw [hb] at hl; simp at hl; exact e hl.1.symm
      exact ⟨by simp only [relab_ne this]; exact hl, g.old c this⟩
  · by_cases e : j = k
    · subst e; simp [GB.refro]; omega
    · simp [GB.refro, e]

/-- the store behind a step -/
theorem RelS.step {Λ Λ' : L} {s s' : S} (h : RelS Λ s) (hk : Kp Λ Λ') (hx : Λ'.nxt = Λ.nxt)
    (hsto : ∀ k o, aget s'.sto k = some o → (aget s.sto k = some o ∧ (∀ b, Λ.lab b = .obj k → Λ'.w.heap[b]? = Λ.w.heap[b]?) ∧ Λ'.fro k = Λ.fro k) ∨ (k < Λ.nxt ∧ RelO Λ' k o))
    (hinj : ∀ b b' k, Λ'.lab b = .obj k → Λ'.lab b' = .obj k → b = b') (hnew : ∀ b, Λ'.w.heap.size ≤ b → Λ'.lab b = .fix none)
    (hbnd : ∀ b k, (Λ'.lab b = .obj k ∨ ∃ n, Λ'.lab b = .arr k n) → k < Λ.nxt) (hfrz : ∀ k, Λ.nxt ≤ k → Λ'.fro k = 0) (F : FKeep Λ Λ') : RelS Λ' s' := by
  refine ⟨fun k o hko => ?_, hinj, hnew, fun b k hb => by rw [hx]; exact hbnd b k hb, fun k hk' => hfrz k (by rw [← hx]; exact hk'), fun b b' k i e1 e2 => h.injF b b' k i ((F.fob ..).1 e1) ((F.fob ..).1 e2), fun b k hb => ?_, fun k i hk' => by rw [F.frf]; exact h.frzF k i (by rw [← hx]; exact hk')⟩
  rotate_left
  · rw [hx]
    refine h.bndF b k ?_
    rcases hb with ⟨i, hb⟩ | ⟨i, n, hb⟩
    · exact .inl ⟨i, (F.fob ..).1 hb⟩
    · exact .inr ⟨i, n, (F.far ..).1 hb⟩
  rcases hsto k o hko with ⟨h1, h2, h3⟩ | ⟨h1, h2⟩
  · obtain ⟨a1, a2⟩ := h.sto k o h1
    exact ⟨by rw [hx]; exact a1, a2.mono hk a1 h2 h3 (fun b i => F.hob b k i) (fun b i => (F.fob b k i).1) (fun i => by rw [F.frf])⟩
  · exact ⟨by rw [hx]; exact h1, h2⟩

/-- a name that bore nothing -/
theorem Free.keep {Λ Λ' : L} {k : Nat} (h : Free Λ k) (F : FKeep Λ Λ') (ho : ∀ b, Λ'.lab b ≠ .obj k) (ha : ∀ b n, Λ'.lab b ≠ .arr k n) (hf : Λ'.fro k = 0) : Free Λ' k :=
  ⟨ho, ha, hf, fun b i e => h.fob b i ((F.fob ..).1 e), fun b i n e => h.far b i n ((F.far ..).1 e), fun i => by rw [F.frf]; exact h.frf i⟩
end Go.GB


/-
  GbL: the operations that change memory: what the evaluation says is what the model does.
-/
namespace Go.GB

/-- What is to be shown of an operation. -/
def OSound (P : Program) (o : Oper) (base : Nat) (st : St) (out : Out) : Prop :=
  ∀ (C : Ctx) (Λ : L) (a : Act) (next : Act → World → Prop) (Q : Exit → Act → World → Prop), C.P = P → Rel C Λ st a → base + out.n ≤ Λ.nxt → (∀ k, base ≤ k → k < base + out.n → k < Λ.nxt ∧ Free Λ k ∧ aget st.s.sto k = none) →
    (∀ v Λ', Kp Λ Λ' → Λ'.nxt = Λ.nxt → RelS Λ' (st.s.app out) → RelV Λ' v out.v → (∀ k, Free Λ k → aget st.s.sto k = none → (base + out.n ≤ k ∨ (k < base ∧ out.rd = false)) → Free Λ' k) → next (a.put o.dst v) Λ'.w) →
    o.wp P a Λ.w next Q

section
variable {P : Program} {o : Oper} {base : Nat} {st : St}

theorem S.app_nil {s : S} {v : V} {r : Bool} : s.app { v := v, rd := r } = s := rfl

theorem OSound.of_E {x : V} {r : Bool} (h : ESound P o true st x) : OSound P o base st { v := x, rd := r } := by
  intro C Λ a next Q hC hr _ _ hn
  obtain ⟨v, h1, h2⟩ := h C Λ a hC rfl hr
  unfold Oper.wp
  rw [h1]
  exact hn v Λ (Kp.refl _) rfl hr.s h2 (fun _ h _ _ => h)

theorem RelV.oneCell {Λ : L} {v : Value} {x : V} (h : RelV Λ v x) (hx : x.cellOk = true) : v.oneCell' = true := by
  cases h with
  | t h => cases h <;> rfl
  | nils => rfl
  | own h _ _ _ _ => cases h; rfl
  | slc _ _ _ => rfl
  | agg _ _ => simp [V.cellOk] at hx
  | tup _ _ => simp [V.cellOk] at hx
  | ptr _ _ => rfl
  | mp _ _ => rfl
  | fn _ _ => rfl
  | gd _ _ => simp [V.cellOk] at hx
  | top => simp [V.cellOk] at hx
  | ub _ _ => simp [V.cellOk] at hx
  | ui => rfl
  | fpt _ _ => rfl
  | gpt hv _ _ _ => obtain ⟨_, rfl⟩ := hv; rfl
  | gsl hv _ _ _ => obtain ⟨_, _, _, rfl⟩ := hv; rfl
  | fow h _ _ _ _ => cases h; rfl

theorem setAt_get : ∀ (us : List V) (cs : List V) (off j : Nat), off + us.length ≤ cs.length → (setAt cs off us)[j]? = if off ≤ j ∧ j < off + us.length then us[j - off]? else cs[j]?
  | [], cs, off, j, _ => by simp [setAt]; omega
  | u :: us, cs, off, j, h => by
    simp only [setAt]
    rw [setAt_get us (cs.set off u) (off + 1) j (by simp at h ⊢; omega)]
    simp only [List.length_cons] at h ⊢
    by_cases h1 : off + 1 ≤ j ∧ j < off + 1 + us.length
    · rw [if_pos h1, if_pos (by omega)]
      have : j - off = (j - (off + 1)) + 1 := by omega
      rw [this]; simp
    · rw [if_neg h1, List.getElem?_set]
      by_cases h2 : off = j
      · subst h2; rw [if_pos rfl, if_pos (by omega), if_pos (by omega)]; simp
      · rw [if_neg h2, if_neg (by omega)]

theorem o_store {t : TypeId} {x y : Operand} {x' y' : Ar} {n k off : Nat} {cs vs : List V} (ho : o.op = .store t x y) (hn : szOf P t = some n) (hx : opA x = some x') (hy : opA y = some y')
    (hxv : x'.u st = .ptr k off) (hk : aget st.s.sto k = some (.cells cs)) (hvs : (y'.u st).parts = some vs) (hl : vs.length = n ∧ off + n ≤ cs.length) (hok : vs.all V.cellOk = true) :
    OSound P o base st { v := .top, ob := [(k, .cells (setAt cs off vs))], rd := true } := by
  intro C Λ a next Q hC hr _ _ hnext
  have hx1 := hr.opu hx
  have hy1 := (hr.opu hy).parts hvs
  rw [hxv] at hx1
  generalize hv : a.eval x = v at hx1
  cases hx1 with
  | @ptr b _ _ hkn hb =>
    obtain ⟨arr, e, h2, h3, h4⟩ := hr.s.objCells hk hb
    have hone : ∀ u ∈ (a.eval y).cells.toList, u.oneCell' = true := by
      intro u hu
      obtain ⟨j, hj⟩ := List.mem_iff_getElem?.1 hu
      have hj' : (a.eval y).cells[j]? = some u := by simpa using hj
      have hlt : j < vs.length := by rw [← hy1.1]; exact (Array.getElem?_eq_some_iff.1 hj').1
      have := hy1.2 j u vs[j] hj' (by simp [hlt])
      exact this.oneCell (by rw [List.all_eq_true] at hok; exact hok _ (List.getElem_mem hlt))
    have hsz : (a.eval y).cells.size = n := by rw [hy1.1]; exact hl.1
    have hst := run_storeCells_at P b off e (a.eval y).cells.toList 0 arr Λ.w h2 (by simp [hsz]; omega) hone
    simp only [Nat.add_zero] at hst
    have hrun : (execOp a.eval o).run P Λ.w = .ok .skip (Λ.w.setRow b (arr.toList.take off ++ (a.eval y).cells.toList ++ arr.toList.drop (off + (a.eval y).cells.toList.length)).toArray) := by
      simp only [execOp, ho, hv]
      simp [Instr.storeAt, Instr.sureAddr, storeVar, szOf_run hn, hsz, hst]
    unfold Oper.wp
    rw [hrun]
    have hkp : Kp Λ { Λ with w := Λ.w.setRow b (arr.toList.take off ++ (a.eval y).cells.toList ++ arr.toList.drop (off + (a.eval y).cells.toList.length)).toArray } := Kp.wrote (Wrote.setRow _ _ _) hb
    have hF : FKeep Λ { Λ with w := Λ.w.setRow b (arr.toList.take off ++ (a.eval y).cells.toList ++ arr.toList.drop (off + (a.eval y).cells.toList.length)).toArray } := FKeep.wrote (Wrote.setRow _ _ _) hb
    refine hnext undef _ hkp rfl ?_ .top (fun k h _ _ => h.keep hF h.obj h.arr h.fro)
    refine hr.s.step hkp rfl (fun j ob hj => ?_) hr.s.inj (fun c hc => hr.s.new c (by simpa using hc)) hr.s.bnd hr.s.frz hF
    simp only [S.app, asets] at hj
    rw [aget_aset] at hj
    split at hj
    · rename_i e; subst e
      simp at hj; subst hj
      refine .inr ⟨hkn, b, _, e, hb, setRow_heap _ _ _ _ _ _ h2, ?_, ?_⟩
      · simp [setAt_length, hsz]; omega
      · intro j u c hu hc
        rw [setAt_get _ _ _ _ (by omega)] at hc
        have hu' : (arr.toList.take off ++ (a.eval y).cells.toList ++ arr.toList.drop (off + (a.eval y).cells.toList.length))[j]? = some u := by simpa using hu
        have hln : (a.eval y).cells.toList.length = n := by simpa using hsz
        have hlt : (arr.toList.take off).length = off := by simp; omega
        split at hc
        · rename_i hj
          rw [List.append_assoc, List.getElem?_append_right (by omega), hlt, List.getElem?_append_left (by omega)] at hu'
          exact (hy1.2 _ u c (by simpa using hu') hc).mono hkp
        · rename_i hj
          refine (h4 j u c ?_ hc).mono hkp
          by_cases hj1 : j < off
          · rw [List.append_assoc, List.getElem?_append_left (by omega), List.getElem?_take, if_pos hj1] at hu'
            simpa using hu'
          · rw [List.getElem?_append_right (by simp; omega), List.getElem?_drop] at hu'
            have : off + (a.eval y).cells.toList.length + (j - (arr.toList.take off ++ (a.eval y).cells.toList).length) = j := by simp; omega
            rw [this] at hu'
            simpa using hu'
    · rename_i hne
      refine .inl ⟨hj, fun c hc => ?_, rfl⟩
      have : c ≠ b := by rintro rfl; rw [hb] at hc; simp at hc; exact hne hc
      exact setRow_other _ _ _ _ this

/-- a new block with a free name -/
theorem new_obj {Λ : L} {s : S} {w' : World} {ob : Obj} {k : Nat} {ao : AObj} (h : RelS Λ s) (g : Grew Λ.w w' ob) (hk : k < Λ.nxt) (hf : Free Λ k) {Λ' : L} (hΛ : Λ' = { Λ with lab := relab Λ.lab Λ.w.heap.size (.obj k), w := w' })
    (ho : RelO Λ' k ao) :
    Kp Λ Λ' ∧ RelS Λ' { s with sto := aset s.sto k ao } ∧ ∀ j, Free Λ j → j ≠ k → Free Λ' j := by
  subst hΛ
  have hkp := Kp.new g h.new (.obj k)
  have hF := FKeep.new g h.new (.obj k) rfl
  refine ⟨hkp, h.step hkp rfl (fun j ob' hj => ?_) (fun b b' j h1 h2 => ?_) (fun b hb => ?_) (fun b j hb => ?_) h.frz hF, fun j hj hne => hj.keep hF (fun b hb => ?_) (fun b n hb => ?_) hj.fro⟩
  · simp only at hj
    rw [aget_aset] at hj
    split at hj
    · rename_i e; subst e; simp at hj; subst hj; exact .inr ⟨hk, ho⟩
    · refine .inl ⟨hj, fun b hb => g.old ?_, rfl⟩
      rcases Nat.lt_or_ge b Λ.w.heap.size with h' | h'
      · exact h'
      · rw [h.new b h'] at hb; simp at hb
  · by_cases e1 : b = Λ.w.heap.size
    · by_cases e2 : b' = Λ.w.heap.size
      · omega
      · simp only [relab_ne e2] at h2
        subst e1; simp only [relab_same] at h1
        simp at h1; subst h1
        exact absurd h2 (hf.obj b')
    · simp only [relab_ne e1] at h1
      by_cases e2 : b' = Λ.w.heap.size
      · subst e2; simp only [relab_same] at h2; simp at h2; subst h2; exact absurd h1 (hf.obj b)
      · simp only [relab_ne e2] at h2; exact h.inj b b' j h1 h2
  · simp only at hb ⊢
    rw [g.size] at hb
    rw [relab_ne (by omega)]; exact h.new b (by omega)
  · by_cases e : b = Λ.w.heap.size
    · subst e; simp only [relab_same] at hb; rcases hb with hb | ⟨n, hb⟩ <;> simp at hb; omega
    · simp only [relab_ne e] at hb; exact h.bnd b j hb
  · by_cases e : b = Λ.w.heap.size
    · subst e; simp only [relab_same] at hb; simp at hb; exact hne hb.symm
    · simp only [relab_ne e] at hb; exact hj.obj b hb
  · by_cases e : b = Λ.w.heap.size
    · subst e; simp only [relab_same] at hb; simp at hb
    · simp only [relab_ne e] at hb; exact hj.arr b n hb

theorem o_box {t : TypeId} {x : Operand} {x' : Ar} {n : Nat} {vs : List V} (ho : o.op = .box t x) (hx : opA x = some x') (hvs : (x'.u st).parts = some vs) :
    OSound P o base st { v := .ptr base 0, ob := [(base, .cells vs)], n := n + 1 } := by
  intro C Λ a next Q hC hr hle hfree hnext
  have hx1 := (hr.opu hx).parts hvs
  have hrun : (execOp a.eval o).run P Λ.w = .ok (.value (.pointer (some ⟨Λ.w.heap.size, 0, none⟩))) (Λ.w.alloc (.cells (a.eval x).cells t)) := by
    simp only [execOp, ho]
    simp [Instr.box, newVar, newRow]
  unfold Oper.wp
  rw [hrun]
  obtain ⟨hb1, hb2, hb3⟩ := hfree base (Nat.le_refl _) (by simp)
  have g := Grew.alloc Λ.w (.cells (a.eval x).cells t)
  have hkp := Kp.new g hr.s.new (.obj base)
  obtain ⟨k1, k2, k3⟩ := new_obj hr.s g hb1 hb2 rfl (ao := .cells vs) ⟨Λ.w.heap.size, _, _, by simp [relab_same], g.top, hx1.1, fun j v c e1 e2 => (hx1.2 j v c e1 e2).mono hkp⟩
  exact hnext _ _ k1 rfl k2 (.ptr hb1 (by simp [relab_same])) (fun k hk _ hlt => k3 k hk (by simp at hlt; omega))

theorem o_alloc {t : TypeId} {zs : List V} (ho : o.op = .alloc t) (hz : zerosOf P t = some zs) : OSound P o base st { v := .ptr base 0, ob := [(base, .cells zs)], n := 1 } := by
  intro C Λ a next Q hC hr hle hfree hnext
  obtain ⟨i, z, hi, hz1, hlen, hok⟩ := zerosOf_spec hz
  have hrun : (execOp a.eval o).run P Λ.w = .ok (.value (.pointer (some ⟨Λ.w.heap.size, 0, none⟩))) (Λ.w.alloc (.cells z.cells t)) := by
    simp only [execOp, ho]
    simp [Instr.alloc, zeroValue, typeInfo, hi, hz1, newVar, newRow]
  unfold Oper.wp
  rw [hrun]
  obtain ⟨hb1, hb2, hb3⟩ := hfree base (Nat.le_refl _) (by simp)
  have g := Grew.alloc Λ.w (.cells z.cells t)
  have hrc := fun Λ' : L => zeros_relC (Λ := Λ') hok
  obtain ⟨k1, k2, k3⟩ := new_obj hr.s g hb1 hb2 rfl (ao := .cells zs) ⟨Λ.w.heap.size, _, _, by simp [relab_same], g.top, (hrc Λ).1, fun j v c e1 e2 => (hrc _).2 j v c e1 e2⟩
  exact hnext _ _ k1 rfl k2 (.ptr hb1 (by simp [relab_same])) (fun k hk _ hlt => k3 k hk (by simp at hlt; omega))

end
end Go.GB


/-
  GbM: slices made, built and grown.
-/
namespace Go.GB
section
variable {P : Program} {o : Oper} {base : Nat} {st : St}

/-- the cells of a list of elements, one after the other -/
theorem flat_get {α : Type} {sz : Nat} : ∀ (xs : List (List α)), (∀ (i : Nat) (c : List α), xs[i]? = some c → c.length = sz) → ∀ (i j : Nat) (c : List α) (x : α), xs[i]? = some c → c[j]? = some x → xs.flatten[i * sz + j]? = some x
  | [], _, i, j, c, x, h, _ => by simp at h
  | d :: r, hs, 0, j, c, x, h, hj => by
    simp at h; subst h
    have hl := hs 0 d rfl
    have hjl := (List.getElem?_eq_some_iff.1 hj).1
    simp only [List.flatten_cons, Nat.zero_mul, Nat.zero_add]
    rw [List.getElem?_append_left hjl]; exact hj
  | d :: r, hs, i + 1, j, c, x, h, hj => by
    have hl := hs 0 d rfl
    have ih := flat_get r (fun i c hc => hs (i + 1) c (by simpa using hc)) i j c x (by simpa using h) hj
    simp only [List.flatten_cons]
    rw [List.getElem?_append_right (by rw [hl, Nat.add_mul]; omega)]
    have : (i + 1) * sz + j - d.length = i * sz + j := by rw [hl, Nat.add_mul]; omega
    rw [this]; exact ih

theorem flat_len {α : Type} {sz : Nat} : ∀ (xs : List (List α)), (∀ (i : Nat) (c : List α), xs[i]? = some c → c.length = sz) → xs.flatten.length = xs.length * sz
  | [], _ => by simp
  | d :: r, hs => by
    have hl := hs 0 d rfl
    have ih := flat_len r (fun i c hc => hs (i + 1) c (by simpa using hc))
    simp only [List.flatten_cons, List.length_append, List.length_cons, ih, hl, Nat.add_mul]; omega

/-- a block whose cells begin with these trees reads as their list -/
theorem rep_block {l : Nat → Lab} {w : World} {b n cap sz : Nat} {arr : Array Value} {e : TypeId} {fz : Nat × Nat} {xs : List (List T)} {vs : List Value} (hb : w.heap[b]? = some (.cells arr e fz)) (hcap : n ≤ cap) (hn : xs.length = n)
    (hsz : ∀ (i : Nat) (c : List T), xs[i]? = some c → c.length = sz) (hr : ∀ o, o < n * sz → Rd l b o) (hv : ∀ (j : Nat) (v : Value), vs[j]? = some v → arr[j]? = some v) (hvl : vs.length = n * sz)
    (hx : ∀ (j : Nat) (v : Value) (x : T), vs[j]? = some v → xs.flatten[j]? = some x → RepT l w v x) : RepT l w (.slice (some ⟨b, 0, none⟩) n cap) (.lst xs) := by
  subst hn
  have hlt : ∀ (i j : Nat) (c : List T) (x : T), xs[i]? = some c → c[j]? = some x → i * sz + j < vs.length := by
    intro i j c x h1 h2
    have e1 := flat_get xs hsz i j c x h1 h2
    have := (List.getElem?_eq_some_iff.1 e1).1
    rw [flat_len xs hsz] at this; omega
  refine .lst _ cap sz xs b 0 (fun i j => vs.getD (i * sz + j) undef) hcap hsz (fun _ _ _ _ _ _ => rfl) ?_ ?_ ?_
  · intro i j c x h1 h2
    exact hr _ (by have := hlt i j c x h1 h2; omega)
  · intro i j c x h1 h2
    have h3 := hlt i j c x h1 h2
    rw [cell_of_row w b _ arr e fz hb, Nat.zero_add]
    rw [hv _ (vs[i * sz + j]) (by simp [h3])]
    simp [h3]
  · intro i j c x h1 h2
    have h3 := hlt i j c x h1 h2
    exact hx (i * sz + j) _ x (by simp [h3]) (flat_get xs hsz i j c x h1 h2)

/-- the cells of a slice that reads as a list -/
theorem RepT.cells {l : Nat → Lab} {w : World} {v : Value} {sz : Nat} {xs : List (List T)} (h : RepT l w v (.lst xs)) (hsz : ∀ (i : Nat) (c : List T), xs[i]? = some c → c.length = sz) (h0 : 0 < xs.length) (hs0 : 0 < sz) :
    ∃ (b off cap : Nat) (vs : List Value), v = .slice (some ⟨b, off, none⟩) xs.length cap ∧ xs.length ≤ cap ∧ vs.length = xs.length * sz ∧ (∀ (j : Nat) (u : Value), vs[j]? = some u → w.cell? ⟨b, off + j, none⟩ = some u ∧ Rd l b (off + j)) ∧
      (∀ (j : Nat) (u : Value) (x : T), vs[j]? = some u → xs.flatten[j]? = some x → RepT l w u x) := by
  cases h with
  | lst a cap sz' _ b off vf hcap hsz' ha hr hc hrep =>
    have hc0 : xs[0]? = some xs[0] := by simp [h0]
    have e0 : sz' = sz := by rw [← hsz' 0 _ hc0, ← hsz 0 _ hc0]
    subst e0
    have hl0 : 0 < xs[0].length := by rw [hsz 0 _ hc0]; exact hs0
    have ea := ha 0 0 xs[0] xs[0][0] hc0 (by simp [hl0])
    subst ea
    have hdm : ∀ j, j < xs.length * sz' → j / sz' < xs.length ∧ j % sz' < sz' ∧ j / sz' * sz' + j % sz' = j := by
      intro j hj
      refine ⟨Nat.div_lt_of_lt_mul (by rwa [Nat.mul_comm] at hj), Nat.mod_lt _ hs0, by rw [Nat.mul_comm]; exact Nat.div_add_mod j sz'⟩
    have hat : ∀ j, (hj : j < xs.length * sz') → ∃ c x, xs[j / sz']? = some c ∧ c[j % sz']? = some x := by
      intro j hj
      obtain ⟨d1, d2, d3⟩ := hdm j hj
      refine ⟨xs[j / sz'], xs[j / sz'][j % sz']'(by rw [hsz (j / sz') _ (by simp [d1])]; exact d2), by simp [d1], by simp⟩
    refine ⟨b, off, cap, (List.range (xs.length * sz')).map fun j => vf (j / sz') (j % sz'), rfl, hcap, by simp, fun j u hu => ?_, fun j u x hu hx => ?_⟩
    · have hj : j < xs.length * sz' := by
        have := (List.getElem?_eq_some_iff.1 hu).1
        simpa using this
      rw [List.getElem?_map, List.getElem?_range hj] at hu
      simp at hu; subst hu
      obtain ⟨c, x, e1, e2⟩ := hat j hj
      have e3 := hc _ _ c x e1 e2
      have e4 := hr _ _ c x e1 e2
      rw [Nat.add_assoc, (hdm j hj).2.2] at e3 e4
      exact ⟨e3, e4⟩
    · have hj : j < xs.length * sz' := by
        have := (List.getElem?_eq_some_iff.1 hx).1
        rwa [flat_len xs hsz] at this
      rw [List.getElem?_map, List.getElem?_range hj] at hu
      simp at hu; subst hu
      obtain ⟨c, y, e1, e2⟩ := hat j hj
      have e3 := flat_get xs hsz _ _ c y e1 e2
      rw [(hdm j hj).2.2, hx] at e3
      simp at e3; subst e3
      exact hrep _ _ c x e1 e2

/-- a new block for an array; its old block, if any, has been left -/
theorem new_arr {Λ Λ1 : L} {s : S} {w' : World} {ob : Obj} {k n fr : Nat} (h : RelS Λ s) (h1 : Kp Λ Λ1) (F1 : FKeep Λ Λ1) (hw : Λ1.w = Λ.w) (hx : Λ1.nxt = Λ.nxt) (hf : Λ1.fro = refro Λ.fro k n)
    (hlab : ∀ b, Λ1.lab b = Λ.lab b ∨ (∃ m fr, Λ.lab b = .arr k m ∧ Λ1.lab b = .fix fr)) (g : Grew Λ.w w' ob) (hk : k < Λ.nxt) {Λ' : L} (hΛ : Λ' = { lab := relab Λ1.lab Λ.w.heap.size (.arr k fr), fro := Λ1.fro, nxt := Λ.nxt, w := w', frf := Λ1.frf }) :
    Kp Λ Λ' ∧ RelS Λ' { s with sto := aset s.sto k (.arr n) } ∧ ∀ j, Free Λ j → j ≠ k → Free Λ' j := by
  subst hΛ
  have hnew1 : ∀ b, Λ.w.heap.size ≤ b → Λ1.lab b = .fix none := by
    intro b hb
    rcases hlab b with e | ⟨m, f, e, _⟩
    · rw [e]; exact h.new b hb
    · rw [h.new b hb] at e; simp at e
  have hF : FKeep Λ { lab := relab Λ1.lab Λ.w.heap.size (.arr k fr), fro := Λ1.fro, nxt := Λ.nxt, w := w', frf := Λ1.frf } := by
    have h2 := FKeep.new (Λ := Λ1) (w' := w') (o := ob) (by rw [hw]; exact g) (by rw [hw]; exact hnew1) (.arr k fr) rfl
    have h3 := F1.trans h2 (by rw [hw]; exact Nat.le_refl _)
    rw [hw, hx] at h3
    exact h3
  have hkp : Kp Λ { lab := relab Λ1.lab Λ.w.heap.size (.arr k fr), fro := Λ1.fro, nxt := Λ.nxt, w := w', frf := Λ1.frf } := by
    have h2 := Kp.new (Λ := Λ1) (w' := w') (o := ob) (by rw [hw]; exact g) (by rw [hw]; exact hnew1) (.arr k fr)
    have h3 := h1.trans h2
    rw [hw, hx] at h3
    exact h3
  have hobj : ∀ b j, relab Λ1.lab Λ.w.heap.size (.arr k fr) b = .obj j → Λ.lab b = .obj j := by
    intro b j hb
    by_cases e : b = Λ.w.heap.size
    · subst e; rw [relab_same] at hb; simp at hb
    · rw [relab_ne e] at hb
      rcases hlab b with e | ⟨m, f, _, e⟩
      · rw [← e]; exact hb
      · rw [e] at hb; simp at hb
  have harr : ∀ b j m, relab Λ1.lab Λ.w.heap.size (.arr k fr) b = .arr j m → j = k ∨ Λ.lab b = .arr j m := by
    intro b j m hb
    by_cases e : b = Λ.w.heap.size
    · subst e; rw [relab_same] at hb; simp at hb; exact .inl hb.1.symm
    · rw [relab_ne e] at hb
      rcases hlab b with e | ⟨m, f, _, e⟩
      · rw [e] at hb; exact .inr hb
      · rw [e] at hb; simp at hb
  refine ⟨hkp, h.step hkp rfl (fun j ob' hj => ?_) (fun b b' j e1 e2 => h.inj b b' j (hobj b j e1) (hobj b' j e2)) (fun b hb => ?_) (fun b j hb => ?_) (fun j hj => ?_) hF, fun j hj hne => hj.keep hF (fun b hb => hj.obj b (hobj b j hb)) (fun b m hb => ?_) ?_⟩
  · simp only at hj
    rw [aget_aset] at hj
    split at hj
    · rename_i e; subst e; simp at hj; subst hj
      exact .inr ⟨hk, by simp only [RelO, hf, refro_same]⟩
    · rename_i hne
      refine .inl ⟨hj, fun b hb => g.old ?_, by simp only [hf]; exact refro_ne (Ne.symm hne)⟩
      rcases Nat.lt_or_ge b Λ.w.heap.size with h' | h'
      · exact h'
      · rw [h.new b h'] at hb; simp at hb
  · simp only at hb ⊢
    rw [g.size] at hb
    rw [relab_ne (by omega)]; exact hnew1 b (by omega)
  · rcases hb with hb | ⟨m, hb⟩
    · exact h.bnd b j (.inl (hobj b j hb))
    · rcases harr b j m hb with rfl | hb'
      · exact hk
      · exact h.bnd b j (.inr ⟨m, hb'⟩)
  · simp only [hf]; rw [refro_ne (by omega)]; exact h.frz j hj
  · rcases harr b j m hb with rfl | hb'
    · exact hne rfl
    · exact hj.arr b m hb'
  · simp only [hf]; rw [refro_ne hne]; exact hj.fro

/-- an array grows in its block -/
theorem same_arr {Λ : L} {s : S} {w' : World} {b k n fr fr' : Nat} (h : RelS Λ s) (g : Wrote Λ.w w' b) (hb : Λ.lab b = .arr k fr) (hfr : fr ≤ fr') (hc : ∀ o, o < fr → w'.cell? ⟨b, o, none⟩ = Λ.w.cell? ⟨b, o, none⟩) (hn : Λ.fro k < n)
    {Λ' : L} (hΛ : Λ' = { Λ with lab := relab Λ.lab b (.arr k fr'), fro := refro Λ.fro k n, w := w' }) :
    Kp Λ Λ' ∧ RelS Λ' { s with sto := aset s.sto k (.arr n) } ∧ ∀ j, Free Λ j → Free Λ' j := by
  subst hΛ
  have hkp := Kp.grown g hb hfr hc hn
  have hF := FKeep.grown (fr' := fr') (n := n) g hb
  have hk : k < Λ.nxt := h.bnd b k (.inr ⟨_, hb⟩)
  have hobj : ∀ c j, relab Λ.lab b (.arr k fr') c = .obj j → Λ.lab c = .obj j ∧ c ≠ b := by
    intro c j hc
    by_cases e : c = b
    · subst e; rw [relab_same] at hc; simp at hc
    · rw [relab_ne e] at hc; exact ⟨hc, e⟩
  have harr : ∀ c j m, relab Λ.lab b (.arr k fr') c = .arr j m → ∃ m', Λ.lab c = .arr j m' := by
    intro c j m hc
    by_cases e : c = b
    · subst e; rw [relab_same] at hc; simp at hc; rw [← hc.1]; exact ⟨_, hb⟩
    · rw [relab_ne e] at hc; exact ⟨_, hc⟩
  refine ⟨hkp, h.step hkp rfl (fun j ob' hj => ?_) (fun c c' j e1 e2 => h.inj c c' j (hobj c j e1).1 (hobj c' j e2).1) (fun c hcc => ?_) (fun c j hc => ?_) (fun j hj => ?_) hF, fun j hj => hj.keep hF (fun c hc => hj.obj c (hobj c j hc).1) (fun c m hc => ?_) ?_⟩
  · simp only at hj
    rw [aget_aset] at hj
    split at hj
    · rename_i e; subst e; simp at hj; subst hj
      exact .inr ⟨hk, by simp only [RelO, refro_same]⟩
    · rename_i hne
      refine .inl ⟨hj, fun c hcc => g.old c ?_, refro_ne (Ne.symm hne)⟩
      intro e; rw [e, hb] at hcc; simp at hcc
  · simp only at hcc ⊢
    rw [g.size] at hcc
    have : c ≠ b := by intro e; rw [e] at hcc; rw [h.new _ hcc] at hb; simp at hb
    rw [relab_ne this]; exact h.new c hcc
  · rcases hc with hc | ⟨m, hc⟩
    · exact h.bnd c j (.inl (hobj c j hc).1)
    · obtain ⟨m', e⟩ := harr c j m hc; exact h.bnd c j (.inr ⟨m', e⟩)
  · show refro Λ.fro k n j = 0
    rw [refro_ne (by omega)]; exact h.frz j hj
  · obtain ⟨m', e⟩ := harr c j m hc; exact hj.arr c m' e
  · have : j ≠ k := by rintro rfl; exact hj.arr b fr hb
    show refro Λ.fro k n j = 0
    rw [refro_ne this]; exact hj.fro

end
end Go.GB


/-
  GbN: append, slice literals, make.
-/
namespace Go.GB
section
variable {P : Program} {o : Oper} {base : Nat} {st : St}

theorem run_op_append {t ty : TypeId} {x y : Operand} {args : Array Operand} {ats : Array TypeId} {a : Act} {w w' : World} {r : Value} (ho : o.op = .call { callee := .builtin .append, args := args, argTypes := ats }) (hty : o.type = ty)
    (ha : args.toList = [x, y]) (hat : ats.toList = [t, t]) (h : (Builtin.append_ #[t, t] ty #[a.eval x, a.eval y]).run P w = .ok r w') : (execOp a.eval o).run P w = .ok (.value r) w' := by
  have e1 : args.map a.eval = #[a.eval x, a.eval y] := by apply Array.ext'; simp [ha]
  have e2 : ats = #[t, t] := by apply Array.ext'; simp [hat]
  subst e2; subst hty
  simp only [execOp, ho, resolve, Sem.run_bind, Sem.run_pure, Result.andThen_ok, invoke, builtin, e1]
  simp [h]

theorem run_append_zero {t ty e : TypeId} {i : TypeInfo} (ht : P.underlying t = some (.slice e)) (hi : P.info? e = some i) (b : Option Addr) (n cap : Nat) (hn : n ≤ cap) (a : Option Addr) (c : Nat) (w : World) :
    (Builtin.append_ #[t, t] ty #[.slice b n cap, .slice a 0 c]).run P w = .ok (.slice b n cap) w := by
  cases a with
  | none => cases b <;> simp [Builtin.append_, run_underlying ht, sizeOf, typeInfo, hi, Builtin.lenOf, hn, Builtin.firstCells, storeCells]
  | some a =>
    have hl : (loadCells a 0).run P w = .ok #[] w := by
      have := run_loadCells_list (P := P) w a [] (by simp)
      simpa using this
    cases b <;> simp [Builtin.append_, run_underlying ht, sizeOf, typeInfo, hi, Builtin.lenOf, hn, Builtin.firstCells, hl, storeCells]

theorem run_append_room' {t ty e e' : TypeId} {i : TypeInfo} (w : World) (ht : P.underlying t = some (.slice e)) (hi : P.info? e = some i)
    (g sLen sCap : Nat) (cur : Array Value) (hg : w.heap[g]? = some (.cells cur e' (0, 0)))
    (a : Addr) (m c : Nat) (news : List Value) (hl : news.length = m * i.size) (hnews : ∀ j u, news[j]? = some u → w.cell? (a.add j) = some u) (h1 : ∀ u ∈ news, u.oneCell' = true)
    (hroom : sLen + m ≤ sCap) (hfit : sLen * i.size + news.length ≤ cur.size) :
    (Builtin.append_ #[t, t] ty #[.slice (some ⟨g, 0, none⟩) sLen sCap, .slice (some a) m c]).run P w =
      .ok (.slice (some ⟨g, 0, none⟩) (sLen + m) sCap) (w.setRow g (cur.toList.take (sLen * i.size) ++ news ++ cur.toList.drop (sLen * i.size + news.length)).toArray) := by
  have hf := run_firstCells_some (P := P) w i.size m a m c news hl hnews
  have hst := run_storeCells_at P g (sLen * i.size) e' news 0 cur w hg (by simpa using hfit) h1
  simp only [Nat.add_zero] at hst
  simp [Builtin.append_, run_underlying ht, sizeOf, typeInfo, hi, Builtin.lenOf, hroom, hf, Addr.add_lit, hst]

theorem RepT.oneCell {l : Nat → Lab} {w : World} {v : Value} {x : T} (h : RepT l w v x) : v.oneCell' = true := by cases h <;> rfl

/-- what is known of an append's operands -/
structure AppOp (P : Program) (o : Oper) (sz bytes : Nat) (x' y' : Ar) where
  x : Operand
  y : Operand
  args : Array Operand
  ats : Array TypeId
  t : TypeId
  e : TypeId
  inf : TypeInfo
  z : Value
  ho : o.op = .call { callee := .builtin .append, args := args, argTypes := ats }
  ha : args.toList = [x, y]
  hat : ats.toList = [t, t]
  ht : P.underlying t = some (.slice e)
  hi : P.info? e = some inf
  hz : inf.zero = some z
  hs : inf.size = sz
  hb : inf.bytes = bytes
  h0 : 0 < sz
  hzs : z.cells.size = sz
  hx : opA x = some x'
  hy : opA y = some y'

theorem allLen_append {sz : Nat} {xs ys : List (List T)} (hx : ∀ (i : Nat) (c : List T), xs[i]? = some c → c.length = sz) (hy : ∀ (i : Nat) (c : List T), ys[i]? = some c → c.length = sz) :
    ∀ (i : Nat) (c : List T), (xs ++ ys)[i]? = some c → c.length = sz := by
  intro i c h
  by_cases hi : i < xs.length
  · rw [List.getElem?_append_left hi] at h; exact hx i c h
  · rw [List.getElem?_append_right (by omega)] at h; exact hy _ c h

/-- a nil slice grows into a new block of a name k -/
theorem app_nil {sz bytes : Nat} {x' y' : Ar} (A : AppOp P o sz bytes x' y') {C : Ctx} {Λ : L} {a : Act} (hr : Rel C Λ st a) {k : Nat} {ys : List (List T)} (hk : k < Λ.nxt) (hfro : Λ.fro k = 0) {ad : Option Addr} (hnil : a.eval A.x = .slice ad 0 0)
    (hy : RepT Λ.lab Λ.w (a.eval A.y) (.lst ys)) (hl : ∀ (i : Nat) (c : List T), ys[i]? = some c → c.length = sz) (hroom : ys.length * bytes ≤ 140737488355328) (h63 : ys.length ≤ 9223372036854775807) :
    ∃ v Λ', (execOp a.eval o).run P Λ.w = .ok (.value v) Λ'.w ∧ Kp Λ Λ' ∧ Λ'.nxt = Λ.nxt ∧ RelS Λ' { st.s with sto := aset st.s.sto k (.arr ys.length) } ∧ RelV Λ' v (.own k sz ys) ∧ ∀ j, Free Λ j → j ≠ k → Free Λ' j := by
  by_cases hy0 : ys.length = 0
  · have hys : ys = [] := List.length_eq_zero_iff.1 hy0
    subst hys
    generalize hv : a.eval A.y = u at hy
    have hrun : (execOp a.eval o).run P Λ.w = .ok (.value (.slice ad 0 0)) Λ.w := by
      refine run_op_append A.ho rfl A.ha A.hat ?_
      rw [hnil, hv]
      cases hy with
      | lst a' cap _ _ _ _ _ _ _ _ _ _ _ => exact run_append_zero A.ht A.hi ad 0 0 (Nat.le_refl _) a' cap Λ.w
    have hkp := Kp.refl Λ
    refine ⟨_, Λ, hrun, hkp, rfl, ?_, .own .nil (by simp) hk (by simp) (fun _ => .inl ⟨⟨_, rfl⟩, rfl⟩), fun j hj _ => hj⟩
    refine hr.s.step hkp rfl (fun j ob hj => ?_) hr.s.inj hr.s.new hr.s.bnd hr.s.frz (FKeep.refl _)
    simp only at hj
    rw [aget_aset] at hj
    split at hj
    · rename_i e; subst e; simp at hj; subst hj; exact .inr ⟨hk, hfro⟩
    · exact .inl ⟨hj, fun _ _ => rfl, rfl⟩
  · obtain ⟨b, off, cap, vs, hv, hcap, hvl, hvc, hvr⟩ := hy.cells hl (by omega) A.h0
    have hrun' : (Builtin.append_ #[A.t, A.t] o.type #[.slice ad 0 0, .slice (some ⟨b, off, none⟩) ys.length cap]).run P Λ.w =
        .ok (.slice (some ⟨Λ.w.heap.size, 0, none⟩) ys.length (grownCap Λ.w ys.length 0 A.e)) (Λ.w.drew.alloc (.cells (vs.toArray ++ Builtin.zeroCells A.z.cells (grownCap Λ.w ys.length 0 A.e - ys.length)) A.e)) := by
      cases ad with
      | none => exact run_append_nil (P := P) Λ.w A.t o.type A.e A.inf A.z A.ht A.hi A.hz ⟨b, off, none⟩ ys.length cap vs (by rw [A.hs]; exact hvl) (fun j u hu => by rw [add_mk]; exact (hvc j u hu).1) (by omega) (by omega) (by rw [A.hb]; omega)
      | some ad =>
        have := run_append_grow (P := P) Λ.w A.t o.type A.e A.inf A.z A.ht A.hi A.hz ad 0 0 [] (by simp) (by simp) ⟨b, off, none⟩ ys.length cap vs (by rw [A.hs]; exact hvl) (fun j u hu => by rw [add_mk]; exact (hvc j u hu).1) (by omega) (by omega) (by rw [Nat.zero_add, nextslicecap_zero (by omega), A.hb]; omega)
        simpa only [Nat.zero_add, List.append_toArray, List.nil_append] using this
    have hrun := run_op_append (x := A.x) (y := A.y) (a := a) A.ho rfl A.ha A.hat (by rw [hnil, hv]; exact hrun')
    have g := Grew.drewAlloc Λ.w (.cells (vs.toArray ++ Builtin.zeroCells A.z.cells (grownCap Λ.w ys.length 0 A.e - ys.length)) A.e)
    have h1 : Kp Λ { Λ with fro := refro Λ.fro k ys.length } := Kp.refro (by omega)
    obtain ⟨k1, k2, k3⟩ := new_arr (fr := ys.length * sz) hr.s h1 FKeep.refro rfl rfl rfl (fun _ => .inl rfl) g hk rfl
    have hge := grownCap_ge Λ.w ys.length 0 A.e
    refine ⟨_, _, hrun, k1, rfl, k2, .own ?_ hl hk (by simp [refro]) (fun _ => .inr ⟨Λ.w.heap.size, _, _, _, rfl, by simp [relab], g.top, ?_, hge⟩), k3⟩
    · refine rep_block (sz := sz) (vs := vs) g.top hge rfl hl (fun o ho => by simp [Rd, relab]; exact ho) (fun j v hj => ?_) hvl (fun j v x h1 h2 => (hvr j v x h1 h2).mono k1.fr)
      rw [Array.getElem?_append_left (by have := (List.getElem?_eq_some_iff.1 hj).1; simpa using this)]; simpa using hj
    · simp only [Array.size_append, List.size_toArray, size_zeroCells, A.hzs, hvl]
      rw [← Nat.add_mul]; congr 1; omega

theorem o_app_nil {sz bytes : Nat} {x' y' : Ar} {ys : List (List T)} (A : AppOp P o sz bytes x' y') (hxv : x'.u st = .nils) (hyv : (y'.u st).cell1 = some (.lst ys)) (hl : allLen sz ys = true) (hroom : ys.length * bytes ≤ 140737488355328) (h63 : ys.length ≤ 9223372036854775807) :
    OSound P o base st { v := .own base sz ys, ob := [(base, .arr ys.length)], n := 1 } := by
  intro C Λ a next Q hC hr hle hfree hnext
  have hx1 := hr.opu A.hx
  rw [hxv] at hx1
  obtain ⟨ad, hnil⟩ : ∃ ad, a.eval A.x = .slice ad 0 0 := by generalize a.eval A.x = u at hx1; cases hx1; exact ⟨_, rfl⟩
  obtain ⟨hb1, hb2, hb3⟩ := hfree base (Nat.le_refl _) (by simp)
  obtain ⟨v, Λ', h1, h2, h3, h4, h5, h6⟩ := app_nil A hr hb1 hb2.fro hnil ((hr.opu A.hy).cell1 hyv) (allLen_at hl) hroom h63
  unfold Oper.wp
  rw [h1]
  exact hnext v Λ' h2 h3 h4 h5 (fun k hk _ hlt => h6 k hk (by simp at hlt; omega))

theorem o_app_own {sz bytes k : Nat} {x' y' : Ar} {xs ys : List (List T)} (A : AppOp P o sz bytes x' y') (hxv : x'.u st = .own k sz xs) (hk : aget st.s.sto k = some (.arr xs.length)) (hyv : (y'.u st).cell1 = some (.lst ys)) (hl : allLen sz ys = true)
    (hroom : (xs.length + ys.length) * bytes ≤ 140737488355328) (h63 : xs.length + ys.length ≤ 9223372036854775807) :
    OSound P o base st { v := .own k sz (xs ++ ys), ob := [(k, .arr (xs.length + ys.length))], rd := true } := by
  intro C Λ a next Q hC hr hle hfree hnext
  have hx1 := hr.opu A.hx
  rw [hxv] at hx1
  obtain ⟨hkn, hfk⟩ := hr.s.sto k _ hk
  have hfk : Λ.fro k = xs.length := hfk
  have hy1 := (hr.opu A.hy).cell1 hyv
  have hlY := allLen_at hl
  unfold Oper.wp
  generalize hxe : a.eval A.x = vx at hx1
  cases hx1 with
  | own hrep hsz _ _ how =>
  rcases how hfk.symm with ⟨⟨ad, rfl⟩, hx0⟩ | ⟨b, cap, arr, e', hvx, hlb, hhb, hac, hnc⟩
  · have hxs : xs = [] := List.length_eq_zero_iff.1 hx0
    subst hxs
    obtain ⟨v, Λ', h1, h2, h3, h4, h5, h6⟩ := app_nil A hr hkn hfk hxe hy1 hlY (by simpa using hroom) (by simpa using h63)
    rw [h1]
    refine hnext v Λ' h2 h3 (by simpa [S.app, asets] using h4) (by simpa using h5) (fun j hj hn _ => h6 j hj ?_)
    rintro rfl; rw [hk] at hn; simp at hn
  · subst hvx
    by_cases hy0 : ys.length = 0
    · have hys : ys = [] := List.length_eq_zero_iff.1 hy0
      subst hys
      have hrun : (execOp a.eval o).run P Λ.w = .ok (.value (.slice (some ⟨b, 0, none⟩) xs.length cap)) Λ.w := by
        refine run_op_append A.ho rfl A.ha A.hat ?_
        rw [hxe]
        generalize a.eval A.y = u at hy1
        cases hy1 with
        | lst a' cap' _ _ _ _ _ _ _ _ _ _ _ => exact run_append_zero A.ht A.hi _ _ _ hnc a' cap' Λ.w
      rw [hrun]
      refine hnext _ Λ (Kp.refl Λ) rfl ?_ (by simpa using RelV.own hrep hsz hkn (by omega) how) (fun j hj _ _ => hj)
      refine hr.s.step (Kp.refl Λ) rfl (fun j ob hj => ?_) hr.s.inj hr.s.new hr.s.bnd hr.s.frz (FKeep.refl _)
      simp only [S.app, asets] at hj
      rw [aget_aset] at hj
      split at hj
      · rename_i e; subst e; simp at hj; subst hj; exact .inr ⟨hkn, hfk⟩
      · exact .inl ⟨hj, fun _ _ => rfl, rfl⟩
    · obtain ⟨yb, yoff, ycap, vs, hv, hcap, hvl, hvc, hvr⟩ := hy1.cells hlY (by omega) A.h0
      have hone : ∀ u ∈ vs, u.oneCell' = true := by
        intro u hu
        obtain ⟨j, hj⟩ := List.mem_iff_getElem?.1 hu
        have hjl := (List.getElem?_eq_some_iff.1 hj).1
        have hfl : j < ys.flatten.length := by rw [flat_len ys hlY]; omega
        exact (hvr j u ys.flatten[j] hj (by simp)).oneCell
      -- the old cells
      have hold : ∃ us : List Value, us.length = xs.length * sz ∧ (∀ (j : Nat) (u : Value), us[j]? = some u → arr[j]? = some u) ∧ ∀ (j : Nat) (u : Value) (x : T), us[j]? = some u → xs.flatten[j]? = some x → RepT Λ.lab Λ.w u x := by
        by_cases hx0 : xs.length = 0
        · exact ⟨[], by simp [hx0], by simp, by simp⟩
        · obtain ⟨b', off', cap', us, e1, e2, e3, e4, e5⟩ := hrep.cells hsz (by omega) A.h0
          simp at e1
          obtain ⟨⟨rfl, rfl⟩, rfl⟩ := e1
          refine ⟨us, e3, fun j u hu => ?_, e5⟩
          have := (e4 j u hu).1
          rw [cell_of_row Λ.w b _ arr e' _ hhb] at this
          simpa using this
      obtain ⟨us, hul, huc, hur⟩ := hold
      have hflat : (xs ++ ys).flatten = xs.flatten ++ ys.flatten := by simp
      have hboth : ∀ (j : Nat) (u : Value) (x : T), (us ++ vs)[j]? = some u → (xs ++ ys).flatten[j]? = some x → RepT Λ.lab Λ.w u x := by
        intro j u x h1 h2
        rw [hflat] at h2
        have hxl := flat_len xs hsz
        by_cases hj : j < us.length
        · rw [List.getElem?_append_left hj] at h1
          rw [List.getElem?_append_left (by omega)] at h2
          exact hur j u x h1 h2
        · rw [List.getElem?_append_right (by omega)] at h1
          rw [List.getElem?_append_right (by omega)] at h2
          rw [hxl, ← hul] at h2
          exact hvr _ u x h1 h2
      by_cases hrm : xs.length + ys.length ≤ cap
      · have hfit : xs.length * A.inf.size + vs.length ≤ arr.size := by
          rw [A.hs, hvl, hac, ← Nat.add_mul]; exact Nat.mul_le_mul_right _ hrm
        have hrun' := run_append_room' (P := P) (ty := o.type) Λ.w A.ht A.hi b xs.length cap arr hhb ⟨yb, yoff, none⟩ ys.length ycap vs (by rw [A.hs]; exact hvl) (fun j u hu => by rw [add_mk]; exact (hvc j u hu).1) hone hrm hfit
        have hrun := run_op_append (x := A.x) (y := A.y) (a := a) A.ho rfl A.ha A.hat (by rw [hxe, hv]; exact hrun')
        rw [hrun]
        rw [A.hs] at hfit ⊢
        have harrL : ∀ j, j < xs.length * sz → (arr.toList.take (xs.length * sz) ++ vs ++ arr.toList.drop (xs.length * sz + vs.length)).toArray[j]? = arr[j]? := by
          intro j hj
          have : (arr.toList.take (xs.length * sz)).length = xs.length * sz := by simp; omega
          simp only [List.getElem?_toArray]
          rw [List.append_assoc, List.getElem?_append_left (by omega), List.getElem?_take, if_pos hj]
          simp
        have hsz2 : (arr.toList.take (xs.length * sz) ++ vs ++ arr.toList.drop (xs.length * sz + vs.length)).toArray.size = cap * sz := by simp; omega
        have hget2 : ∀ (j : Nat) (v : Value), (us ++ vs)[j]? = some v → (arr.toList.take (xs.length * sz) ++ vs ++ arr.toList.drop (xs.length * sz + vs.length)).toArray[j]? = some v := by
          intro j v hj
          by_cases hjl : j < us.length
          · rw [List.getElem?_append_left hjl] at hj
            rw [harrL j (by omega)]; exact huc j v hj
          · rw [List.getElem?_append_right (by omega)] at hj
            have : (arr.toList.take (xs.length * sz)).length = xs.length * sz := by simp; omega
            simp only [List.getElem?_toArray]
            have hjv := (List.getElem?_eq_some_iff.1 hj).1
            rw [List.append_assoc, List.getElem?_append_right (by omega), List.getElem?_append_left (by omega), this, ← hul]; exact hj
        generalize (arr.toList.take (xs.length * sz) ++ vs ++ arr.toList.drop (xs.length * sz + vs.length)).toArray = A2 at *
        obtain ⟨k1, k2, k3⟩ := same_arr (n := xs.length + ys.length) (fr' := (xs.length + ys.length) * sz) hr.s (Wrote.setRow Λ.w b A2) hlb (Nat.mul_le_mul_right _ (by omega)) (fun o ho => by
          rw [cell_setRow_same _ _ _ _ _ _ _ hhb, cell_of_row Λ.w b o arr e' _ hhb]; exact harrL o ho) (by omega) rfl
        refine hnext (.slice (some ⟨b, 0, none⟩) (xs.length + ys.length) cap) _ k1 rfl k2 (.own ?_ (allLen_append hsz hlY) hkn (by simp [refro]) (fun _ => .inr ⟨b, cap, A2, e', by simp, by simp [relab], setRow_heap _ _ _ _ _ _ hhb, hsz2, by simpa using hrm⟩)) (fun j hj _ _ => k3 j hj)
        · exact rep_block (sz := sz) (vs := us ++ vs) (setRow_heap _ _ _ _ _ _ hhb) hrm (by simp) (allLen_append hsz hlY) (fun o ho => by simp [Rd, relab] at ho ⊢; exact ho) hget2 (by simp [hul, hvl, Nat.add_mul]) (fun j v x h1 h2 => (hboth j v x h1 h2).mono k1.fr)
      · have hrun' := run_append_grow (P := P) Λ.w A.t o.type A.e A.inf A.z A.ht A.hi A.hz ⟨b, 0, none⟩ xs.length cap us (by rw [A.hs]; exact hul)
          (fun j u hu => by rw [add_mk, cell_of_row Λ.w b _ arr e' _ hhb, Nat.zero_add]; exact huc j u hu) ⟨yb, yoff, none⟩ ys.length ycap vs (by rw [A.hs]; exact hvl) (fun j u hu => by rw [add_mk]; exact (hvc j u hu).1) (by omega) (by omega)
          (by rw [A.hb]; exact growslice_fits (by omega) hroom)
        have hrun := run_op_append (x := A.x) (y := A.y) (a := a) A.ho rfl A.ha A.hat (by rw [hxe, hv]; exact hrun')
        rw [hrun]
        have g := Grew.drewAlloc Λ.w (.cells (us.toArray ++ vs.toArray ++ Builtin.zeroCells A.z.cells (grownCap Λ.w (xs.length + ys.length) cap A.e - (xs.length + ys.length))) A.e)
        have h1 := Kp.left (n := xs.length + ys.length) hlb (by omega)
        obtain ⟨k1, k2, k3⟩ := new_arr (n := xs.length + ys.length) (fr := (xs.length + ys.length) * sz) hr.s h1 (FKeep.left hlb) rfl rfl rfl (fun c => by
          by_cases e : c = b
          · subst e; exact .inr ⟨xs.length * sz, some (xs.length * sz), hlb, by simp [relab]⟩
          · exact .inl (by simp [relab, e])) g hkn rfl
        have hge := grownCap_ge Λ.w (xs.length + ys.length) cap A.e
        refine hnext (.slice (some ⟨Λ.w.heap.size, 0, none⟩) (xs.length + ys.length) (grownCap Λ.w (xs.length + ys.length) cap A.e)) _ k1 rfl k2 (.own ?_ (allLen_append hsz hlY) hkn (by simp [refro]) (fun _ => .inr ⟨Λ.w.heap.size, grownCap Λ.w (xs.length + ys.length) cap A.e, _, A.e, by simp, by simp [relab], g.top, ?_, by simpa using hge⟩)) (fun j hj hn _ => k3 j hj ?_)
        · refine rep_block (sz := sz) (vs := us ++ vs) g.top hge (by simp) (allLen_append hsz hlY) (fun o ho => by simp [Rd, relab] at ho ⊢; exact ho) (fun j v hj => ?_) (by simp [hul, hvl, Nat.add_mul]) (fun j v x h1 h2 => (hboth j v x h1 h2).mono k1.fr)
          have hjl := (List.getElem?_eq_some_iff.1 hj).1
          rw [Array.getElem?_append_left (by simpa using hjl)]
          have : (us.toArray ++ vs.toArray)[j]? = (us ++ vs)[j]? := by simp
          rw [this]; exact hj
        · simp only [Array.size_append, List.size_toArray, size_zeroCells, A.hzs, hvl, hul]
          rw [← Nat.add_mul, ← Nat.add_mul]; congr 1; omega
        · rintro rfl; rw [hk] at hn; simp at hn

end
end Go.GB


/-
  GbO: slice literals, make, calls; every operation does what its evaluation says.
-/
namespace Go.GB
section
variable {P : Program} {o : Oper} {base : Nat} {st : St}

theorem setAt_flat {sz : Nat} : ∀ (xs : List (List T)) (i : Nat) (c : List T), (∀ (i : Nat) (c : List T), xs[i]? = some c → c.length = sz) → c.length = sz → i < xs.length →
    setAt (xs.flatten.map V.t) (i * sz) (c.map V.t) = ((xs.set i c).flatten.map V.t) := by
  intro xs i c hs hc hi
  apply List.ext_getElem?
  intro p
  have hl := flat_len xs hs
  have hs' : ∀ (j : Nat) (d : List T), (xs.set i c)[j]? = some d → d.length = sz := by
    intro j d hj
    by_cases e : i = j
    · subst e; rw [List.getElem?_set_self hi] at hj; simp at hj; subst hj; exact hc
    · rw [List.getElem?_set_ne e] at hj; exact hs j d hj
  have hl' := flat_len (xs.set i c) hs'
  have hin : i * sz + sz ≤ xs.length * sz := by rw [← Nat.succ_mul]; exact Nat.mul_le_mul_right _ hi
  rw [setAt_get _ _ _ _ (by simp only [List.length_map]; omega)]
  simp only [List.length_map]
  rcases Nat.eq_zero_or_pos sz with h0 | h0
  · subst h0
    have e1 : xs.flatten = [] := List.length_eq_zero_iff.1 (by omega)
    have e2 : (xs.set i c).flatten = [] := List.length_eq_zero_iff.1 (by omega)
    rw [if_neg (by omega), e1, e2]
  by_cases hp : p < xs.length * sz
  · have d1 : p / sz < xs.length := Nat.div_lt_of_lt_mul (by rwa [Nat.mul_comm] at hp)
    have d2 : p % sz < sz := Nat.mod_lt _ h0
    have d3 : p / sz * sz + p % sz = p := by rw [Nat.mul_comm]; exact Nat.div_add_mod p sz
    by_cases hpi : p / sz = i
    · subst hpi
      rw [if_pos (by omega)]
      have e : p - p / sz * sz = p % sz := by omega
      have hcl : p % sz < c.length := by omega
      have := flat_get (xs.set (p / sz) c) hs' (p / sz) (p % sz) c c[p % sz] (by simp [d1]) (by simp [hcl])
      rw [d3] at this
      rw [e]
      rw [List.getElem?_map, List.getElem?_map, this]; simp [hcl]
    · have hno : ¬ (i * sz ≤ p ∧ p < i * sz + c.length) := by
        rintro ⟨h1, h2⟩
        apply hpi
        rw [hc] at h2
        have : p / sz = i := by
          apply Nat.div_eq_of_lt_le
          · exact h1
          · rw [Nat.succ_mul]; exact h2
        exact this
      rw [if_neg hno]
      have hdl : p % sz < xs[p / sz].length := by rw [hs (p / sz) _ (by simp [d1])]; exact d2
      have a1 := flat_get xs hs (p / sz) (p % sz) xs[p / sz] (xs[p / sz][p % sz]) (by simp [d1]) (by simp [hdl])
      have a2 := flat_get (xs.set i c) hs' (p / sz) (p % sz) xs[p / sz] (xs[p / sz][p % sz]) (by rw [List.getElem?_set]; simp [Ne.symm hpi, d1]) (by simp [hdl])
      rw [d3] at a1 a2
      rw [List.getElem?_map, List.getElem?_map, a1, a2]
  · rw [if_neg (by omega)]
    rw [List.getElem?_eq_none (by simp only [List.length_map]; omega), List.getElem?_eq_none (by simp only [List.length_map]; rw [hl']; simp; omega)]

theorem cellsT_relC {Λ : L} {v : Value} {x : V} {c : List T} (h : RelV Λ v x) (hc : x.cellsT = some c) : RelC Λ v.cells (c.map V.t) := by
  have one : ∀ {v : Value} {y : T}, v.cells = #[v] → RepT Λ.lab Λ.w v y → RelC Λ v.cells [V.t y] := by
    intro v y hv hy
    rw [hv]
    refine ⟨rfl, fun j u d hu hd => ?_⟩
    cases j with
    | zero => simp at hu hd; subst hu; subst hd; exact .t hy
    | succ j => simp at hd
  have hone : ∀ {v : Value} {y : T}, RepT Λ.lab Λ.w v y → v.cells = #[v] := by intro v y hy; cases hy <;> rfl
  have gen : ∀ {y : T}, x.cell1 = some y → c = [y] → RelC Λ v.cells (c.map V.t) := by
    intro y h1 h2
    subst h2
    have := h.cell1 h1
    exact one (hone this) this
  cases h with
  | agg hs h =>
    simp only [V.cellsT] at hc
    rename_i vs cs
    have key : ∀ (cs : List V) (c : List T), cs.mapM V.cell1 = some c → cs.length = c.length ∧ ∀ (j : Nat) (d : V) (y : T), cs[j]? = some d → c[j]? = some y → d.cell1 = some y := by
      intro cs
      induction cs with
      | nil => intro c h; simp at h; subst h; simp
      | cons d cs ih =>
        intro c h
        simp only [List.mapM_cons, Option.bind_eq_bind, Option.pure_def, Option.bind_eq_some_iff] at h
        obtain ⟨y, hy, c', hc', h⟩ := h
        simp at h; subst h
        obtain ⟨i1, i2⟩ := ih c' hc'
        refine ⟨by simp [i1], fun j e z h1 h2 => ?_⟩
        cases j with
        | zero => simp at h1 h2; subst h1; subst h2; exact hy
        | succ j => exact i2 j e z (by simpa using h1) (by simpa using h2)
    obtain ⟨k1, k2⟩ := key cs c hc
    refine ⟨by simp [Value.cells, hs, k1], fun j u d hu hd => ?_⟩
    rw [List.getElem?_map, Option.map_eq_some_iff] at hd
    obtain ⟨y, hy, rfl⟩ := hd
    have hlt : j < cs.length := by rw [k1]; exact (List.getElem?_eq_some_iff.1 hy).1
    have := h j u cs[j] hu (by simp [hlt])
    exact .t (this.cell1 (k2 j _ y (by simp [hlt]) hy))
  | t h => simp [V.cellsT, V.cell1] at hc; exact gen rfl hc.symm
  | nils => simp [V.cellsT, V.cell1] at hc; exact gen rfl hc.symm
  | own h a b c' d => simp [V.cellsT, V.cell1] at hc; exact gen rfl hc.symm
  | slc a c h => simp [V.cellsT, V.cell1] at hc
  | tup _ _ => simp [V.cellsT, V.cell1] at hc
  | ptr a h => simp [V.cellsT, V.cell1] at hc
  | mp a h => simp [V.cellsT, V.cell1] at hc
  | fn hs h => simp [V.cellsT, V.cell1] at hc
  | gd _ _ => simp [V.cellsT, V.cell1] at hc
  | top => simp [V.cellsT, V.cell1] at hc
  | ub _ _ => simp [V.cellsT, V.cell1] at hc
  | ui => simp [V.cellsT, V.cell1] at hc
  | fpt a h => simp [V.cellsT, V.cell1] at hc
  | gpt a b c h => simp [V.cellsT, V.cell1] at hc
  | gsl a b c h => simp [V.cellsT, V.cell1] at hc
  | fow h a b c' d => simp [V.cellsT, V.cell1] at hc; exact gen rfl hc.symm

theorem pure_fill {C : Ctx} {Λ : L} {ac : Act} (h : Rel C Λ st ac) (sz : Nat) : ∀ (parts : List (Nat × Operand)) (ps : List (Nat × Ar)) (arr : Array Value) (zs xs : List (List T)),
    slotsOf parts = some ps → RelC Λ arr (zs.flatten.map V.t) → (∀ (i : Nat) (c : List T), zs[i]? = some c → c.length = sz) → pureParts st sz zs ps = some xs →
    ∃ arr', Instr.fill (fun i => some (i * sz, sz)) arr (parts.map fun (i, x) => (i, ac.eval x)) = some arr' ∧ RelC Λ arr' (xs.flatten.map V.t) ∧ (∀ (i : Nat) (c : List T), xs[i]? = some c → c.length = sz) ∧ xs.length = zs.length
  | [], ps, arr, zs, xs, hps, hr, hs, hf => by
    simp [slotsOf] at hps; subst hps; simp [pureParts] at hf; subst hf
    exact ⟨arr, rfl, hr, hs, rfl⟩
  | (i, x) :: parts, ps, arr, zs, xs, hps, hr, hs, hf => by
    simp only [slotsOf] at hps
    split at hps
    · rename_i a l h1 h2
      simp at hps; subst hps
      simp only [pureParts] at hf
      split at hf
      · rename_i c hc
        split at hf
        · rename_i hcond
          have hrc := cellsT_relC (h.opu h1) hc
          have hfold := RelC.foldl (i * sz) (ac.eval x).cells.toList (c.map V.t) 0 arr (zs.flatten.map V.t) (by simpa using hrc.1) (fun j a b e1 e2 => hrc.2 j a b (by simpa using e1) e2) hr
          rw [Nat.add_zero, setAt_flat zs i c hs hcond.1 hcond.2] at hfold
          have hs' : ∀ (j : Nat) (d : List T), (zs.set i c)[j]? = some d → d.length = sz := by
            intro j d hj
            by_cases e : i = j
            · subst e; rw [List.getElem?_set_self hcond.2] at hj; simp at hj; subst hj; exact hcond.1
            · rw [List.getElem?_set_ne e] at hj; exact hs j d hj
          obtain ⟨arr', e1, e2, e3, e4⟩ := pure_fill h sz parts l _ _ xs h2 hfold hs' hf
          refine ⟨arr', ?_, e2, e3, by simpa using e4⟩
          have hsz : (ac.eval x).cells.size = sz := by rw [hrc.1]; simpa using hcond.1
          have hsz2 : arr.size = zs.length * sz := by rw [hr.1, List.length_map, flat_len zs hs]
          have hin : i * sz + sz ≤ zs.length * sz := by rw [← Nat.succ_mul]; exact Nat.mul_le_mul_right _ hcond.2
          simp only [List.map_cons, Instr.fill, hsz]
          have : ¬ (i * sz + sz > arr.size) := by omega
          simp only [ne_eq, not_true_eq_false, decide_false, this, Bool.or_self, Bool.false_eq_true, if_false]
          rw [← e1]
          congr 1
          rw [← Array.foldl_toList, Array.toList_zipIdx]
        · simp at hf
      · simp at hf
    · simp at hps

theorem made_relC {Λ : L} {zc : Array Value} {cs : List V} (h : RelC Λ zc cs) (n : Nat) : RelC Λ ((Array.range (n * zc.size)).map (zc[· % zc.size]!)) (List.replicate n cs).flatten := by
  have hall : ∀ (i : Nat) (c : List V), (List.replicate n cs)[i]? = some c → c.length = zc.size := by
    intro i c hc
    have := List.mem_of_getElem? hc
    rw [List.mem_replicate] at this
    rw [this.2, h.1]
  have hlen := flat_len _ hall
  simp only [List.length_replicate] at hlen
  refine ⟨by simp [hlen], fun j v c hv hc => ?_⟩
  have hj : j < n * zc.size := by have := (List.getElem?_eq_some_iff.1 hc).1; omega
  have h0 : 0 < zc.size := by rcases Nat.eq_zero_or_pos zc.size with h | h; · rw [h] at hj; omega
                              · exact h
  have d1 : j / zc.size < n := Nat.div_lt_of_lt_mul (by rwa [Nat.mul_comm] at hj)
  have d2 : j % zc.size < zc.size := Nat.mod_lt _ h0
  have d3 : j / zc.size * zc.size + j % zc.size = j := by rw [Nat.mul_comm]; exact Nat.div_add_mod j zc.size
  have hcl : j % zc.size < cs.length := by rw [← h.1]; exact d2
  have := flat_get _ hall (j / zc.size) (j % zc.size) cs cs[j % zc.size] (by simp [d1]) (by simp [hcl])
  rw [d3, hc] at this
  simp at this; subst this
  have hv' : v = zc[j % zc.size] := by
    rw [Array.getElem?_map, Array.getElem?_range] at hv
    simp [hj] at hv
    rw [← hv]
    simp [d2]
  subst hv'
  exact h.2 (j % zc.size) _ _ (Array.getElem?_eq_getElem d2) (List.getElem?_eq_getElem hcl)

theorem mapM_cell1 : ∀ (cs : List V) (c : List T), cs.mapM V.cell1 = some c → cs.length = c.length ∧ ∀ (j : Nat) (d : V) (y : T), cs[j]? = some d → c[j]? = some y → d.cell1 = some y := by
  intro cs
  induction cs with
  | nil => intro c h; simp at h; subst h; simp
  | cons d cs ih =>
    intro c h
    simp only [List.mapM_cons, Option.bind_eq_bind, Option.pure_def, Option.bind_eq_some_iff] at h
    obtain ⟨y, hy, c', hc', h⟩ := h
    simp at h; subst h
    obtain ⟨i1, i2⟩ := ih c' hc'
    refine ⟨by simp [i1], fun j e z h1 h2 => ?_⟩
    cases j with
    | zero => simp at h1 h2; subst h1; subst h2; exact hy
    | succ j => exact i2 j e z (by simpa using h1) (by simpa using h2)

theorem relC_pure {Λ : L} {arr : Array Value} {cs : List V} {c : List T} (h : RelC Λ arr cs) (hc : cs.mapM V.cell1 = some c) : RelC Λ arr (c.map V.t) := by
  obtain ⟨k1, k2⟩ := mapM_cell1 cs c hc
  refine ⟨by simp [h.1, k1], fun j u d hu hd => ?_⟩
  rw [List.getElem?_map, Option.map_eq_some_iff] at hd
  obtain ⟨y, hy, rfl⟩ := hd
  have hlt : j < cs.length := by rw [k1]; exact (List.getElem?_eq_some_iff.1 hy).1
  exact .t ((h.2 j u cs[j] hu (by simp [hlt])).cell1 (k2 j _ y (by simp [hlt]) hy))

theorem run_buildSlice {t e : TypeId} {i : TypeInfo} {z : Value} {n : Nat} {parts : Array (Nat × Operand)} {a : Act} {w : World} {arr : Array Value} (ho : o.op = .buildSlice t n parts) (ht : P.underlying t = some (.slice e)) (hi : P.info? e = some i) (hz : i.zero = some z) (hzs : z.cells.size = i.size)
    (hle : n * i.size ≤ 16777216) (hf : Instr.fill (fun j => some (j * i.size, i.size)) ((Array.range (n * z.cells.size)).map (z.cells[· % z.cells.size]!)) (parts.toList.map fun (j, x) => (j, a.eval x)) = some arr) :
    (execOp a.eval o).run P w = .ok (.value (.slice (some ⟨w.heap.size, 0, none⟩) n n)) (w.alloc (.cells arr e)) := by
  simp only [execOp, ho]
  have hle' : ¬ (16777216 < n * i.size) := by omega
  rw [hzs] at hf
  by_cases h0 : n * i.size = 0
  · rw [h0] at hf
    have hf' : Instr.fill (fun j => some (j * i.size, i.size)) ((Array.range 0).map ((#[] : Array Value)[· % (#[] : Array Value).size]!)) (parts.toList.map fun (j, x) => (j, a.eval x)) = some arr := by
      rw [← hf]; congr 1; simp [Array.range_zero']
    simp [Instr.buildSlice, run_underlying ht, sizeOf, typeInfo, hi, h0, newRow]
    have hf2 := hf'
    simp at hf2
    simp [hf2]
  · simp [Instr.buildSlice, run_underlying ht, sizeOf, typeInfo, zeroValue, hi, hz, h0, hle', newRow]
    rw [← hzs] at hf
    rw [hzs] at hf
    simp [hf, hzs]

/-- what is known of a slice literal -/
structure BslOp (P : Program) (o : Oper) (sz : Nat) (zs : List (List T)) (ps : List (Nat × Ar)) where
  t : TypeId
  e : TypeId
  n : Nat
  parts : Array (Nat × Operand)
  zv : List V
  z : List T
  ho : o.op = .buildSlice t n parts
  ht : P.underlying t = some (.slice e)
  hs : szOf P e = some sz
  hzv : zerosOf P e = some zv
  hz : zv.mapM V.cell1 = some z
  hle : n * sz ≤ 16777216
  hzs : zs = List.replicate n z
  hps : slotsOf parts.toList = some ps

theorem bsl_run {sz : Nat} {zs xs : List (List T)} {ps : List (Nat × Ar)} (B : BslOp P o sz zs ps) {C : Ctx} {Λ : L} {a : Act} (hr : Rel C Λ st a) (hx : pureParts st sz zs ps = some xs) :
    ∃ arr, (execOp a.eval o).run P Λ.w = .ok (.value (.slice (some ⟨Λ.w.heap.size, 0, none⟩) xs.length xs.length)) (Λ.w.alloc (.cells arr B.e)) ∧ RelC Λ arr (xs.flatten.map V.t) ∧ (∀ (i : Nat) (c : List T), xs[i]? = some c → c.length = sz) := by
  obtain ⟨i, zval, hi, hz1, hlen, hok⟩ := zerosOf_spec B.hzv
  have hsz : i.size = sz := by have := B.hs; unfold szOf at this; rw [hi] at this; simpa using this
  have hrc := relC_pure (zeros_relC (Λ := Λ) hok) B.hz
  have hzl : zval.cells.size = sz := by rw [(zeros_relC (Λ := Λ) hok).1, hlen]; exact hsz
  have hmade := made_relC hrc B.n
  have hfl : (List.replicate B.n (B.z.map V.t)).flatten = (zs.flatten.map V.t) := by have e := B.hzs; generalize B.n = n at *; generalize B.z = z at *; subst e; simp
  rw [hfl] at hmade
  have hzall : ∀ (i : Nat) (c : List T), zs[i]? = some c → c.length = sz := by
    intro j c hc
    rw [B.hzs] at hc
    have := List.mem_of_getElem? hc
    rw [List.mem_replicate] at this
    rw [this.2]
    have := hrc.1
    simp at this; omega
  obtain ⟨arr, e1, e2, e3, e4⟩ := pure_fill hr sz _ _ _ _ _ B.hps hmade hzall hx
  have hn : xs.length = B.n := by have e := congrArg List.length B.hzs; simp at e; omega
  refine ⟨arr, ?_, e2, e3⟩
  rw [hn]
  exact run_buildSlice B.ho B.ht hi hz1 (by rw [hzl, hsz]) (by rw [hsz]; exact B.hle) (by rw [hsz]; exact e1)

theorem o_bsl {sz : Nat} {zs xs : List (List T)} {ps : List (Nat × Ar)} (B : BslOp P o sz zs ps) (hx : pureParts st sz zs ps = some xs) : OSound P o base st { v := .t (.lst xs) } := by
  intro C Λ a next Q hC hr hle hfree hnext
  obtain ⟨arr, h1, h2, h3⟩ := bsl_run B hr hx
  unfold Oper.wp
  rw [h1]
  have g := Grew.alloc Λ.w (.cells arr B.e)
  have hkp := Kp.new g hr.s.new (.fix none)
  have hlab : ∀ b, relab Λ.lab Λ.w.heap.size (.fix none) b = Λ.lab b := by
    intro b
    by_cases e : b = Λ.w.heap.size
    · subst e; rw [relab_same]; exact (hr.s.new _ (Nat.le_refl _)).symm
    · exact relab_ne e
  have hfun : relab Λ.lab Λ.w.heap.size (.fix none) = Λ.lab := funext hlab
  rw [hfun] at hkp
  have hF := FKeep.new g hr.s.new (.fix none) rfl
  rw [hfun] at hF
  refine hnext _ { Λ with w := Λ.w.alloc (.cells arr B.e) } hkp rfl ?_ ?_ (fun k hk _ _ => hk.keep hF hk.obj hk.arr hk.fro)
  · refine hr.s.step hkp rfl (fun k ob hk => .inl ⟨hk, fun b hb => g.old ?_, rfl⟩) hr.s.inj (fun b hb => hr.s.new b (by have := g.size; simp only at hb; omega)) hr.s.bnd hr.s.frz hF
    rcases Nat.lt_or_ge b Λ.w.heap.size with h' | h'
    · exact h'
    · rw [hr.s.new b h'] at hb; simp at hb
  · refine .t (rep_block (sz := sz) (vs := arr.toList) g.top (Nat.le_refl _) rfl h3 (fun o _ => by simp [Rd, hr.s.new _ (Nat.le_refl _)]) (fun j v hj => by simpa using hj) (by rw [Array.length_toList, h2.1, List.length_map, flat_len xs h3]) fun j v x e1 e2 => ?_)
    exact (h2.2 j v (.t x) (by simpa using e1) (by simp only [List.getElem?_map, e2]; rfl)).repT.mono hkp.fr

theorem o_bsl_nil {sz : Nat} {zs xs : List (List T)} {ps : List (Nat × Ar)} (B : BslOp P o sz zs ps) (hx : pureParts st sz zs ps = some xs) (he : xs = []) : OSound P o base st { v := .nils } := by
  intro C Λ a next Q hC hr hle hfree hnext
  obtain ⟨arr, h1, h2, h3⟩ := bsl_run B hr hx
  subst he
  unfold Oper.wp
  rw [h1]
  have g := Grew.alloc Λ.w (.cells arr B.e)
  have hkp := Kp.new g hr.s.new (.fix none)
  have hlab : ∀ b, relab Λ.lab Λ.w.heap.size (.fix none) b = Λ.lab b := by
    intro b
    by_cases e : b = Λ.w.heap.size
    · subst e; rw [relab_same]; exact (hr.s.new _ (Nat.le_refl _)).symm
    · exact relab_ne e
  have hfun : relab Λ.lab Λ.w.heap.size (.fix none) = Λ.lab := funext hlab
  rw [hfun] at hkp
  have hF := FKeep.new g hr.s.new (.fix none) rfl
  rw [hfun] at hF
  refine hnext _ { Λ with w := Λ.w.alloc (.cells arr B.e) } hkp rfl ?_ ?_ (fun k hk _ _ => hk.keep hF hk.obj hk.arr hk.fro)
  · refine hr.s.step hkp rfl (fun k ob hk => .inl ⟨hk, fun b hb => g.old ?_, rfl⟩) hr.s.inj (fun b hb => hr.s.new b (by have := g.size; simp only at hb; omega)) hr.s.bnd hr.s.frz hF
    rcases Nat.lt_or_ge b Λ.w.heap.size with h' | h'
    · exact h'
    · rw [hr.s.new b h'] at hb; simp at hb
  · exact .nils

theorem o_bsl_own {sz : Nat} {zs xs : List (List T)} {ps : List (Nat × Ar)} (B : BslOp P o sz zs ps) (hx : pureParts st sz zs ps = some xs) : OSound P o base st { v := .own base sz xs, ob := [(base, .arr xs.length)], n := 1 } := by
  intro C Λ a next Q hC hr hle hfree hnext
  obtain ⟨arr, h1, h2, h3⟩ := bsl_run B hr hx
  unfold Oper.wp
  rw [h1]
  obtain ⟨hb1, hb2, hb3⟩ := hfree base (Nat.le_refl _) (by simp)
  have g := Grew.alloc Λ.w (.cells arr B.e)
  have hk1 : Kp Λ { Λ with fro := refro Λ.fro base xs.length } := Kp.refro (by rw [hb2.fro]; omega)
  obtain ⟨k1, k2, k3⟩ := new_arr (fr := xs.length * sz) hr.s hk1 FKeep.refro rfl rfl rfl (fun _ => .inl rfl) g hb1 rfl
  have hal : arr.size = xs.length * sz := by rw [h2.1, List.length_map, flat_len xs h3]
  refine hnext _ _ k1 rfl k2 (.own ?_ h3 hb1 (by simp [refro]) (fun _ => .inr ⟨Λ.w.heap.size, xs.length, arr, B.e, rfl, by simp [relab], g.top, hal, Nat.le_refl _⟩)) (fun k hk _ hlt => k3 k hk (by simp at hlt; omega))
  refine rep_block (sz := sz) (vs := arr.toList) g.top (Nat.le_refl _) rfl h3 (fun o ho => by simp [Rd, relab]; exact ho) (fun j v hj => by simpa using hj) (by rw [Array.length_toList, hal]) fun j v x e1 e2 => ?_
  exact (h2.2 j v (.t x) (by simpa using e1) (by simp only [List.getElem?_map, e2]; rfl)).repT.mono k1.fr

theorem o_mksl {t e : TypeId} {l : Nat} {i : TypeInfo} {zs : List V} {k : IntKind} {m : Int} (ho : o.op = .makeSlice t (.tmp l) (.tmp l)) (ht : P.underlying t = some (.slice e)) (hi : P.info? e = some i) (hz : zerosOf P e = some zs)
    (hm : (look st.env l).ug = .t (.int k m)) (h0 : 0 ≤ m) (hb : m * i.bytes ≤ 281474976710656) (h63 : m ≤ 9223372036854775807) :
    OSound P o base st { v := .slc base 0 m.toNat i.size, ob := [(base, .cells (List.replicate m.toNat zs).flatten)], n := 1 } := by
  intro C Λ a next Q hC hr hle hfree hnext
  obtain ⟨i', z, hi', hz1, hlen, hok⟩ := zerosOf_spec hz
  rw [hi] at hi'; simp at hi'; subst hi'
  have hl := (hr.env l).ug
  rw [hm] at hl
  have el : a.eval (.tmp l) = .int k m := hl.repT.int_inv
  have hrc := zeros_relC (Λ := Λ) hok
  have hzl : z.cells.size = i.size := by rw [hrc.1, hlen]
  have hrun : (execOp a.eval o).run P Λ.w = .ok (.value (.slice (some ⟨Λ.w.heap.size, 0, none⟩) m.toNat m.toNat)) (Λ.w.alloc (.cells (madeCells z.cells (m.toNat * i.size)) e)) := by
    simp only [execOp, ho, el]
    simp [run_make (P := P) Λ.w t e i z ht hi hz1 k k m m h0 (Int.le_refl _) (by rw [Int.mul_comm]; exact hb) h63]
  unfold Oper.wp
  rw [hrun]
  obtain ⟨hb1, hb2, hb3⟩ := hfree base (Nat.le_refl _) (by simp)
  have g := Grew.alloc Λ.w (.cells (madeCells z.cells (m.toNat * i.size)) e)
  have hkp := Kp.new g hr.s.new (.obj base)
  have hmade := made_relC hrc m.toNat
  rw [hzl] at hmade
  have hmm : RelC Λ (madeCells z.cells (m.toNat * i.size)) (List.replicate m.toNat zs).flatten := by
    unfold madeCells; rw [hzl]; exact hmade
  obtain ⟨k1, k2, k3⟩ := new_obj hr.s g hb1 hb2 rfl (ao := .cells (List.replicate m.toNat zs).flatten) ⟨Λ.w.heap.size, _, _, by simp [relab_same], g.top, hmm.1, fun j v c e1 e2 => (hmm.2 j v c e1 e2).mono hkp⟩
  exact hnext _ _ k1 rfl k2 (.slc hb1 (Nat.le_refl _) (by simp [relab_same])) (fun k hk _ hlt => k3 k hk (by simp at hlt; omega))

end
end Go.GB


/-
  GbMp: maps, comparisons of structs and with nil: what the evaluation says is what the model does.
-/
namespace Go.GB

/-- the value of a plain cell -/
def Tv : T → Value
  | .bool b => .bool b
  | .int k n => .int k n
  | .str s => .string ⟨⟨s⟩⟩
  | .ad a _ => .pointer (some a)
  | _ => undef
/-- the value of a key -/
def kv (kag : Bool) (cs : List T) : Value := if kag then .agg (cs.map Tv).toArray else match cs with | [x] => Tv x | _ => undef

theorem RepT.plain {l : Nat → Lab} {w : World} {v : Value} {x : T} {s : KSh} (h : RepT l w v x) (hk : s.ok x = true) : v = Tv x := by
  cases h <;> first | rfl | (cases s <;> simp [KSh.ok] at hk)

theorem keyOk_at : ∀ {ks : List KSh} {cs : List T}, keyOk ks cs = true → ks.length = cs.length ∧ ∀ (j : Nat) (s : KSh) (x : T), ks[j]? = some s → cs[j]? = some x → s.ok x = true
  | [], [], _ => ⟨rfl, by simp⟩
  | [], _ :: _, h => by simp [keyOk] at h
  | _ :: _, [], h => by simp [keyOk] at h
  | s :: r, x :: c, h => by
    simp only [keyOk, Bool.and_eq_true] at h
    obtain ⟨h1, h2⟩ := keyOk_at h.2
    refine ⟨by simp [h1], fun j t y a b => ?_⟩
    cases j with
    | zero => simp at a b; subst a; subst b; exact h.1
    | succ j => exact h2 j t y (by simpa using a) (by simpa using b)

theorem RepA.plain {l : Nat → Lab} {w : World} {kag : Bool} {v : Value} {cs : List T} {ks : List KSh} (h : RepA l w kag v cs) (hk : keyOk ks cs = true) : v = kv kag cs := by
  obtain ⟨h1, h2⟩ := keyOk_at hk
  unfold RepA at h
  cases kag with
  | true =>
    obtain ⟨vs, rfl, hs, hv⟩ := h
    simp only [kv, if_true]
    congr 1
    apply Array.ext
    · simp [hs]
    · intro j a b
      have hjc : j < cs.length := by rw [← hs]; exact a
      have hjk : j < ks.length := by omega
      have := (hv j vs[j] cs[j] (by simp [a]) (by simp [hjc])).plain (h2 j ks[j] cs[j] (by simp [hjk]) (by simp [hjc]))
      simpa using this
  | false =>
    obtain ⟨x, rfl, hv⟩ := h
    have hkl : ks.length = 1 := by simpa using h1
    have := hv.plain (h2 0 (ks[0]'(by omega)) x (by simp) rfl)
    simpa [kv] using this

/-- what is known of a key's type -/
structure KeyT (P : Program) (kt : TypeId) (ks : List KSh) (kag : Bool) : Prop where
  sh : keySh P kt = some (ks, kag)

section
variable {P : Program}

theorem part_plain {t : TypeId} {d : TypeDesc} (hu : P.underlying t = some d) (hd : d = .bool ∨ (∃ k, d = .int k) ∨ d = .string) {vs : Array Value} {off : Nat} {v : Value} (hv : vs[off]? = some v) (w : World) : (part t vs off).run P w = .ok v w := by
  refine part_one hu ?_ hv w
  unfold isAggT
  rw [hu]
  rcases hd with rfl | ⟨k, rfl⟩ | rfl <;> rfl

theorem eqFields_run (d : Nat) : ∀ (fs : List Field) (ks : List KSh) (i : Nat) (cs ds : List T) (xs ys : Array Value) (w : World), fieldsSh P i fs = some ks → keyOk ks cs = true → keyOk ks ds = true →
    (∀ (j : Nat) (x : T), cs[j]? = some x → xs[i + j]? = some (Tv x)) → (∀ (j : Nat) (x : T), ds[j]? = some x → ys[i + j]? = some (Tv x)) → (Op.eqFields (d + 1) xs ys fs).run P w = .ok (keyEq cs ds) w
  | [], ks, i, cs, ds, xs, ys, w, hf, hc, hd, _, _ => by
    simp [fieldsSh] at hf; subst hf
    cases cs <;> simp [keyOk] at hc
    cases ds <;> simp [keyOk] at hd
    simp [Op.eqFields, keyEq]
  | f :: r, ks, i, cs, ds, xs, ys, w, hf, hc, hd, hx, hy => by
    simp only [fieldsSh] at hf
    split at hf
    · rename_i hfo
      obtain ⟨ho, hn⟩ := hfo
      have main : ∀ (s : KSh) (l : List KSh), fieldsSh P (i + 1) r = some l → ks = s :: l →
          (∀ (x y : T), s.ok x = true → s.ok y = true → (∀ w, (part f.type xs f.offset).run P w = .ok (Tv x) w → (part f.type ys f.offset).run P w = .ok (Tv y) w → True) ∧ ∀ w, (Op.equalIn (d + 1) f.type (Tv x) (Tv y)).run P w = .ok (x.eqb y) w) →
          (∀ (vs : Array Value) (v : Value) (w : World), vs[f.offset]? = some v → (part f.type vs f.offset).run P w = .ok v w) →
          (Op.eqFields (d + 1) xs ys (f :: r)).run P w = .ok (keyEq cs ds) w := by
        intro s l hl hks heq hpart
        subst hks
        cases cs with
        | nil => simp [keyOk] at hc
        | cons x cs =>
          cases ds with
          | nil => simp [keyOk] at hd
          | cons y ds =>
            simp only [keyOk, Bool.and_eq_true] at hc hd
            have hx0 := hx 0 x rfl
            have hy0 := hy 0 y rfl
            simp only [Nat.add_zero] at hx0 hy0
            have e1 := hpart xs (Tv x) w (by rw [ho]; exact hx0)
            have e2 := hpart ys (Tv y) w (by rw [ho]; exact hy0)
            have e3 := (heq x y hc.1 hd.1).2 w
            have ih := eqFields_run d r l (i + 1) cs ds xs ys w hl hc.2 hd.2 (fun j z hj => by have := hx (j + 1) z (by simpa using hj); rw [← this]; congr 1; omega) (fun j z hj => by have := hy (j + 1) z (by simpa using hj); rw [← this]; congr 1; omega)
            simp only [Op.eqFields, hn, ne_eq, not_false_eq_true, if_true, Sem.run_bind, e1, e2, e3, Result.andThen_ok, keyEq]
            cases x.eqb y with
            | true => simpa using ih
            | false => simp
      split at hf
      · rename_i l hu hl
        simp at hf
        exact main .bool l hl hf.symm (fun x y hxo hyo => ⟨fun _ _ _ => trivial, fun w => by
          cases x <;> simp [KSh.ok] at hxo
          cases y <;> simp [KSh.ok] at hyo
          simp only [Tv, T.eqb]
          exact run_equalIn_bool w d f.type _ _ hu⟩) (fun vs v w hv => part_plain hu (.inl rfl) hv w)
      · rename_i k l hu hl
        simp at hf
        exact main (.int k) l hl hf.symm (fun x y hxo hyo => ⟨fun _ _ _ => trivial, fun w => by
          cases x <;> simp [KSh.ok] at hxo
          cases y <;> simp [KSh.ok] at hyo
          subst hxo; subst hyo
          simp only [Tv, T.eqb]
          exact run_equalIn_int w d f.type _ _ _ _ hu⟩) (fun vs v w hv => part_plain hu (.inr (.inl ⟨k, rfl⟩)) hv w)
      · rename_i l hu hl
        simp at hf
        exact main .str l hl hf.symm (fun x y hxo hyo => ⟨fun _ _ _ => trivial, fun w => by
          cases x <;> simp [KSh.ok] at hxo
          cases y <;> simp [KSh.ok] at hyo
          simp only [Tv, T.eqb]
          rw [run_equalIn_string w d f.type _ _ hu, toList_mk, toList_mk]⟩) (fun vs v w hv => part_plain hu (.inr (.inr rfl)) hv w)
      · cases hf
    · cases hf

theorem kv_at (cs : List T) (j : Nat) (x : T) (h : cs[j]? = some x) : ((cs.map Tv).toArray)[0 + j]? = some (Tv x) := by
  simp [h]

/-- two structs of plain cells -/
theorem equal_struct {kt : TypeId} {ks : List KSh} (hk : KeyT P kt ks true) {cs ds : List T} (hc : keyOk ks cs = true) (hd : keyOk ks ds = true) (d : Nat) (w : World) : (Op.equalIn (d + 2) kt (kv true cs) (kv true ds)).run P w = .ok (keyEq cs ds) w := by
  have h := hk.sh
  unfold keySh at h
  split at h <;> try (simp at h; done)
  rename_i fs hu
  split at h
  · rename_i hst
    simp only [Option.map_eq_some_iff, Prod.mk.injEq, and_true] at h
    obtain ⟨l, hl, rfl⟩ := h
    have hfo : P.fieldsOf kt = fs := by simp [Program.fieldsOf, hu]
    have ht : P.underlying kt = some (.struct (P.fieldsOf kt)) := by rw [hfo]; exact hu
    simp only [kv, if_true]
    rw [run_equalIn_struct w (d + 1) kt _ _ ht hst.1, hfo]
    exact eqFields_run d fs.toList l 0 cs ds _ _ w hl hc hd (kv_at cs) (kv_at ds)
  · cases h

theorem findAsking_run {kt : TypeId} {k : Value} {w : World} {cs : List T} : ∀ (l : List MapEntry) (es : List (List T × V)) (i : Nat), l.length = es.length →
    (∀ (j : Nat) (e : MapEntry) (x : List T × V), l[j]? = some e → es[j]? = some x → (Op.equal kt k e.key).run P w = .ok (keyEq cs x.1) w) →
    (Instr.findAsking kt k l i).run P w = .ok (match mfind cs es with | some j => (l[j]?).map fun e => (i + j, e.val) | none => none) w
  | [], [], i, _, _ => by simp [Instr.findAsking, mfind]
  | [], _ :: _, i, h, _ => by simp at h
  | _ :: _, [], i, h, _ => by simp at h
  | e :: l, x :: es, i, h, hq => by
    have h0 := hq 0 e x rfl rfl
    have ih := findAsking_run (w := w) l es (i + 1) (by simpa using h) (fun j e x a b => hq (j + 1) e x (by simpa using a) (by simpa using b))
    simp only [Instr.findAsking, Sem.run_bind, h0, Result.andThen_ok, mfind]
    cases hc : keyEq cs x.1 with
    | true => simp
    | false =>
      simp only [Bool.false_eq_true, if_false, ih]
      cases mfind cs es with
      | none => simp
      | some j => simp [Nat.add_assoc, Nat.add_comm 1 j]

theorem findNow_run {k : Value} {kd : TypeDesc} {cs : List T} : ∀ (l : List MapEntry) (es : List (List T × V)) (i : Nat), l.length = es.length →
    (∀ (j : Nat) (e : MapEntry) (x : List T × V), l[j]? = some e → es[j]? = some x → Instr.sameNow kd k e.key = some (keyEq cs x.1)) →
    Instr.findNow kd k l i = some (match mfind cs es with | some j => (l[j]?).map fun e => (i + j, e.val) | none => none)
  | [], [], i, _, _ => by simp [Instr.findNow, mfind]
  | [], _ :: _, i, h, _ => by simp at h
  | _ :: _, [], i, h, _ => by simp at h
  | e :: l, x :: es, i, h, hq => by
    have h0 := hq 0 e x rfl rfl
    have ih := findNow_run l es (i + 1) (by simpa using h) (fun j e x a b => hq (j + 1) e x (by simpa using a) (by simpa using b))
    simp only [Instr.findNow, h0, mfind]
    cases hc : keyEq cs x.1 with
    | true => simp
    | false =>
      simp only [Bool.false_eq_true, if_false, ih]
      cases mfind cs es with
      | none => simp
      | some j => simp [Nat.add_assoc, Nat.add_comm 1 j]

theorem beq_mk (a b : List UInt8) : ((⟨⟨a⟩⟩ : ByteArray) == ⟨⟨b⟩⟩) = (a == b) := by
  rw [beq_toListBytes, toList_mk, toList_mk]

theorem sameNow_plain {kt : TypeId} {s : KSh} (hk : KeyT P kt [s] false) {x y : T} (hx : s.ok x = true) (hy : s.ok y = true) : ∃ d, P.underlying kt = some d ∧ Instr.sameNow d (Tv x) (Tv y) = some (x.eqb y) ∧ MapKept.IsKey d (Tv x) := by
  have h := hk.sh
  unfold keySh at h
  split at h <;> try (simp at h; done)
  · rename_i hu
    simp at h; subst h
    cases x <;> simp [KSh.ok] at hx
    cases y <;> simp [KSh.ok] at hy
    exact ⟨_, hu, rfl, by simp [MapKept.IsKey, Tv]⟩
  · rename_i k hu
    simp at h; subst h
    cases x <;> simp [KSh.ok] at hx
    cases y <;> simp [KSh.ok] at hy
    subst hx; subst hy
    exact ⟨_, hu, by simp [Instr.sameNow, Tv, T.eqb], by simp [MapKept.IsKey, Tv]⟩
  · rename_i hu
    simp at h; subst h
    cases x <;> simp [KSh.ok] at hx
    cases y <;> simp [KSh.ok] at hy
    exact ⟨_, hu, by simp [Instr.sameNow, Tv, T.eqb, beq_mk], by simp [MapKept.IsKey, Tv]⟩

theorem key_rep {Λ : L} {u : Value} {x : V} {ks : List KSh} {kag : Bool} {cs : List T} (h : RelV Λ u x) (hk : keyC ks kag x = some cs) : RepA Λ.lab Λ.w kag u cs ∧ keyOk ks cs = true := by
  unfold keyC at hk
  split at hk
  · rename_i c hc
    split at hk
    · rename_i hb
      simp only [Bool.and_eq_true, beq_iff_eq] at hb
      simp at hk; subst hk
      refine ⟨?_, hb.1⟩
      have hrc := cellsT_relC h hc
      obtain ⟨h1, h2⟩ := keyOk_at hb.1
      unfold RepA
      cases h with
      | agg hs hv =>
        have : kag = true := by simpa [V.isAgg] using hb.2.symm
        subst this
        refine ⟨_, rfl, by simpa [Value.cells] using hrc.1, fun j u y hj hy => ?_⟩
        have := hrc.2 j u (.t y) (by simpa [Value.cells] using hj) (by simp [hy])
        exact this.repT
      | t hx =>
        have : kag = false := by simpa [V.isAgg] using hb.2.symm
        subst this
        simp [V.cellsT, V.cell1] at hc; subst hc
        exact ⟨_, rfl, hx⟩
      | nils =>
        simp [V.cellsT, V.cell1] at hc; subst hc
        cases ks with
        | nil => simp [keyOk] at hb
        | cons s r => cases s <;> simp [keyOk, KSh.ok] at hb
      | own a b c d e =>
        simp [V.cellsT, V.cell1] at hc; subst hc
        cases ks with
        | nil => simp [keyOk] at hb
        | cons s r => cases s <;> simp [keyOk, KSh.ok] at hb
      | fow a b c d e =>
        simp [V.cellsT, V.cell1] at hc; subst hc
        cases ks with
        | nil => simp [keyOk] at hb
        | cons s r => cases s <;> simp [keyOk, KSh.ok] at hb
      | fpt _ _ => simp [V.cellsT, V.cell1] at hc
      | gpt _ _ _ _ => simp [V.cellsT, V.cell1] at hc
      | gsl _ _ _ _ => simp [V.cellsT, V.cell1] at hc
      | slc _ _ _ => simp [V.cellsT, V.cell1] at hc
      | tup _ _ => simp [V.cellsT, V.cell1] at hc
      | ptr _ _ => simp [V.cellsT, V.cell1] at hc
      | mp _ _ => simp [V.cellsT, V.cell1] at hc
      | fn _ _ => simp [V.cellsT, V.cell1] at hc
      | gd _ _ => simp [V.cellsT, V.cell1] at hc
      | top => simp [V.cellsT, V.cell1] at hc
      | ub _ _ => simp [V.cellsT, V.cell1] at hc
      | ui => simp [V.cellsT, V.cell1] at hc
    · cases hk
  · cases hk

theorem key_val {Λ : L} {u : Value} {x : V} {ks : List KSh} {kag : Bool} {cs : List T} (h : RelV Λ u x) (hk : keyC ks kag x = some cs) : u = kv kag cs ∧ keyOk ks cs = true := by
  obtain ⟨h1, h2⟩ := key_rep h hk
  exact ⟨h1.plain h2, h2⟩

theorem keyT_one {kt : TypeId} {ks : List KSh} (hk : KeyT P kt ks false) : ∃ s, ks = [s] := by
  have h := hk.sh
  unfold keySh at h
  split at h
  · simp at h; exact ⟨_, h.symm⟩
  · simp at h; exact ⟨_, h.symm⟩
  · simp at h; exact ⟨_, h.symm⟩
  · split at h <;> simp at h
  · cases h

theorem keyOk_one {s : KSh} {cs : List T} (h : keyOk [s] cs = true) : ∃ x, cs = [x] ∧ s.ok x = true := by
  match cs, h with
  | [x], h => exact ⟨x, rfl, by simpa [keyOk] using h⟩
  | _ :: _ :: _, h => simp [keyOk] at h

theorem find_run {kt : TypeId} {ks : List KSh} {kag : Bool} (hK : KeyT P kt ks kag) {cs : List T} (hc : keyOk ks cs = true) {ents : Array MapEntry} {es : List (List T × V)} (hsz : ents.size = es.length)
    (hkeys : ∀ (i : Nat) (e : MapEntry) (x : List T × V), ents[i]? = some e → es[i]? = some x → e.key = kv kag x.1) (hok : keysOk ks es = true) (w : World) :
    (Instr.findKey kt (kv kag cs) ents.toList).run P w = .ok (match mfind cs es with | some j => (ents[j]?).map fun e => (j, e.val) | none => none) w := by
  have hko : ∀ (i : Nat) (x : List T × V), es[i]? = some x → keyOk ks x.1 = true := by
    intro i x hx
    unfold keysOk at hok
    rw [List.all_eq_true] at hok
    exact hok x (List.mem_of_getElem? hx)
  have hlen : ents.toList.length = es.length := by simpa using hsz
  have hat : ∀ (j : Nat), ents.toList[j]? = ents[j]? := fun j => by simp
  cases kag with
  | false =>
    obtain ⟨s, rfl⟩ := keyT_one hK
    obtain ⟨x, rfl, hx⟩ := keyOk_one hc
    obtain ⟨d, hd, _, _⟩ := sameNow_plain hK hx hx
    have := findNow_run (k := kv false [x]) (kd := d) (cs := [x]) ents.toList es 0 hlen (fun j e y a b => by
      obtain ⟨z, hz, hzo⟩ := keyOk_one (hko j y b)
      obtain ⟨d', hd', h1, _⟩ := sameNow_plain hK hx hzo
      rw [hd] at hd'; simp at hd'; subst hd'
      have he := hkeys j e y (by rw [← hat]; exact a) b
      rw [he, hz]
      simp only [kv, Bool.false_eq_true, if_false, h1, keyEq, Bool.and_true])
    rw [MapKept.run_findKey hd this]
    cases mfind [x] es with
    | none => rfl
    | some j => simp
  | true =>
    have hst : ∃ fs, P.underlying kt = some (.struct fs) := by
      have h := hK.sh
      unfold keySh at h
      split at h <;> simp at h
      exact ⟨_, by assumption⟩
    obtain ⟨fs, hfs⟩ := hst
    have hfk : (Instr.findKey kt (kv true cs) ents.toList).run P w = (Instr.findAsking kt (kv true cs) ents.toList).run P w := by
      cases hl : ents.toList with
      | nil => simp [Instr.findKey, run_underlying hfs, Instr.findNow, Instr.findAsking]
      | cons e r => simp [Instr.findKey, run_underlying hfs, Instr.findNow, Instr.sameNow]
    rw [hfk, findAsking_run (cs := cs) ents.toList es 0 hlen (fun j e y a b => by
      have he := hkeys j e y (by rw [← hat]; exact a) b
      rw [he]
      exact equal_struct hK hc (hko j y b) 9998 w)]
    cases mfind cs es with
    | none => rfl
    | some j => simp

theorem fieldsSh_at : ∀ (fs : List Field) (i : Nat) (ks : List KSh), fieldsSh P i fs = some ks → ∀ f ∈ fs, f.name ≠ "_" ∧ ∃ (j : Nat) (s : KSh) (d : TypeDesc), ks[j]? = some s ∧ f.offset = i + j ∧ P.underlying f.type = some d ∧ (d = .bool ∨ (∃ k, d = .int k) ∨ d = .string)
  | [], _, _, _, f, hf => by simp at hf
  | g :: r, i, ks, h, f, hf => by
    simp only [fieldsSh] at h
    split at h
    · rename_i hgo
      have main : ∀ (s : KSh) (l : List KSh) (d : TypeDesc), fieldsSh P (i + 1) r = some l → ks = s :: l → P.underlying g.type = some d → (d = .bool ∨ (∃ k, d = .int k) ∨ d = .string) → f.name ≠ "_" ∧ ∃ (j : Nat) (s : KSh) (d : TypeDesc), ks[j]? = some s ∧ f.offset = i + j ∧ P.underlying f.type = some d ∧ (d = .bool ∨ (∃ k, d = .int k) ∨ d = .string) := by
        intro s l d hl hks hu hd
        subst hks
        rcases List.mem_cons.1 hf with e | e
        · subst e; exact ⟨hgo.2, 0, s, d, rfl, hgo.1, hu, hd⟩
        · obtain ⟨h1, j, s', d', h2, h3, h4⟩ := fieldsSh_at r (i + 1) l hl f e
          exact ⟨h1, j + 1, s', d', by simpa using h2, by omega, h4⟩
      split at h
      · rename_i hu hl; simp at h; exact main _ _ _ hl h.symm hu (.inl rfl)
      · rename_i hu hl; simp at h; exact main _ _ _ hl h.symm hu (.inr (.inl ⟨_, rfl⟩))
      · rename_i hu hl; simp at h; exact main _ _ _ hl h.symm hu (.inr (.inr rfl))
      · cases h
    · cases h

theorem checkKey_plain {t : TypeId} {d : TypeDesc} (hu : P.underlying t = some d) (hd : d = .bool ∨ (∃ k, d = .int k) ∨ d = .string) (em : Bool) (n : Nat) (v : Value) (w : World) : (Instr.checkKey em (n + 1) t v).run P w = .ok () w := by
  rcases hd with rfl | ⟨k, rfl⟩ | rfl <;> simp [Instr.checkKey, run_underlying hu]

theorem check_run {kt : TypeId} {ks : List KSh} {kag : Bool} (hK : KeyT P kt ks kag) {cs : List T} (hc : keyOk ks cs = true) (em : Bool) (w : World) : (Instr.checkKey em 10000 kt (kv kag cs)).run P w = .ok () w := by
  have h := hK.sh
  unfold keySh at h
  split at h
  · rename_i hu; exact checkKey_plain hu (.inl rfl) em 9999 _ w
  · rename_i hu; exact checkKey_plain hu (.inr (.inl ⟨_, rfl⟩)) em 9999 _ w
  · rename_i hu; exact checkKey_plain hu (.inr (.inr rfl)) em 9999 _ w
  · rename_i fs hu
    split at h
    · simp only [Option.map_eq_some_iff, Prod.mk.injEq] at h
      obtain ⟨l, hl, rfl, rfl⟩ := h
      have each := fieldsSh_at fs.toList 0 l hl
      obtain ⟨hlen, _⟩ := keyOk_at hc
      show (Instr.checkKey em (9998 + 1 + 1) kt (kv true cs)).run P w = .ok () w
      rw [Instr.checkKey]
      simp only [Sem.run_bind, run_underlying hu, Result.andThen_ok, kv, if_true]
      rw [← Array.forIn_toList]
      generalize fs.toList = L at each
      induction L with
      | nil => simp
      | cons f L ih =>
        obtain ⟨hn, j, s, d, h1, h2, h3, h4⟩ := each f (by simp)
        have hlt : j < cs.length := by rw [← hlen]; exact (List.getElem?_eq_some_iff.1 h1).1
        have p1 : (part f.type (cs.map Tv).toArray f.offset).run P w = .ok (Tv cs[j]) w := part_plain h3 h4 (by rw [h2]; simp [hlt]) w
        have p2 := checkKey_plain h3 h4 em 9998 (Tv cs[j]) w
        simp only [List.forIn_cons, Sem.run_bind, hn, ne_eq, not_false_eq_true, if_true, Result.andThen_ok, p1, p2, Sem.run_pure]
        exact ih fun g hg => each g (by simp [hg])
    · cases h
  · cases h

theorem sameBits_Tv (x : T) (n : Nat) : (∃ s : KSh, s.ok x = true) → Instr.sameBits n (Tv x) (Tv x) = true := by
  rintro ⟨s, hs⟩
  cases x <;> cases s <;> simp [KSh.ok] at hs <;> cases n <;> simp [Tv, Instr.sameBits, beq_mk]

theorem stays_run {kt : TypeId} {ks : List KSh} {kag : Bool} (hK : KeyT P kt ks kag) {cs : List T} (hc : keyOk ks cs = true) (w : World) : (Instr.keyThatStays (kv kag cs) (kv kag cs)).run P w = .ok (kv kag cs) w := by
  have hs : Instr.sameBits 10000 (kv kag cs) (kv kag cs) = true := by
    obtain ⟨h1, h2⟩ := keyOk_at hc
    cases kag with
    | true =>
      simp only [kv, if_true]
      rw [Instr.sameBits]
      simp only [List.size_toArray, List.length_map, BEq.rfl, Bool.true_and]
      rw [List.all_eq_true]
      intro p hp
      have hz : ∀ (l : List Value) (p : Value × Value), p ∈ l.zip l → p.1 = p.2 ∧ p.1 ∈ l := by
        intro l
        induction l with
        | nil => intro p h; simp at h
        | cons a l ih =>
          intro p h
          simp only [List.zip_cons_cons, List.mem_cons] at h
          rcases h with rfl | h
          · simp
          · obtain ⟨a1, a2⟩ := ih p h
            exact ⟨a1, List.mem_cons_of_mem _ a2⟩
      obtain ⟨e1, e2⟩ := hz _ p hp
      simp only [List.mem_map] at e2
      obtain ⟨x, hx, e3⟩ := e2
      obtain ⟨j, hj⟩ := List.mem_iff_getElem?.1 hx
      have hlt : j < ks.length := by rw [h1]; exact (List.getElem?_eq_some_iff.1 hj).1
      obtain ⟨a, b⟩ := p
      simp only at e1 e3 ⊢
      rw [← e1, ← e3]
      exact sameBits_Tv x 9999 ⟨ks[j], h2 j ks[j] x (by simp [hlt]) hj⟩
    | false =>
      obtain ⟨s, rfl⟩ := keyT_one hK
      obtain ⟨x, rfl, hx⟩ := keyOk_one hc
      simp only [kv, Bool.false_eq_true, if_false]
      exact sameBits_Tv x 10000 ⟨s, hx⟩
  simp [Instr.keyThatStays, hs]

end
end Go.GB

