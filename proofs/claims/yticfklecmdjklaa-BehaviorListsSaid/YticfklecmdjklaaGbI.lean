/-
  GaJ: structs built, nil compared, closures made, choices.
-/
import Derived.Test.YticfklecmdjklaaGbH
namespace Go.GB
section
variable {P : Program} {o : Oper} {gc : Bool} {st : St}

/-- cells related wherever they lie -/
def RelC (Λ : L) (arr : Array Value) (cs : List V) : Prop :=
  arr.size = cs.length ∧ ∀ (j : Nat) (v : Value) (c : V), arr[j]? = some v → cs[j]? = some c → RelV Λ v c

theorem RelC.set {Λ : L} {arr : Array Value} {cs : List V} (h : RelC Λ arr cs) {i : Nat} {v : Value} {c : V} (hv : RelV Λ v c) : RelC Λ (arr.setIfInBounds i v) (cs.set i c) := by
  refine ⟨by simp [h.1], fun j u x hu hx => ?_⟩
  rw [Array.getElem?_setIfInBounds] at hu
  rw [List.getElem?_set] at hx
  by_cases e : i = j
  · subst e
    by_cases hlt : i < arr.size
    · have hlt' : i < cs.length := by rw [← h.1]; exact hlt
      simp [hlt] at hu; simp [hlt'] at hx; subst hu; subst hx; exact hv
    · simp [hlt] at hu
  · simp only [e, if_false] at hu hx; exact h.2 j u x hu hx

theorem RelC.foldl {Λ : L} (off : Nat) : ∀ (vs : List Value) (us : List V) (s : Nat) (arr : Array Value) (cs : List V), vs.length = us.length →
    (∀ (j : Nat) (v : Value) (c : V), vs[j]? = some v → us[j]? = some c → RelV Λ v c) → RelC Λ arr cs →
    RelC Λ ((vs.zipIdx s).foldl (fun cs (c, j) => cs.setIfInBounds (off + j) c) arr) (setAt cs (off + s) us)
  | [], [], s, arr, cs, _, _, h => by simpa [setAt] using h
  | v :: vs, u :: us, s, arr, cs, hl, hv, h => by
    simp only [List.zipIdx_cons, List.foldl_cons, setAt]
    rw [Nat.add_assoc]
    exact RelC.foldl off vs us (s + 1) _ _ (by simpa using hl) (fun j a b h1 h2 => hv (j + 1) a b (by simpa using h1) (by simpa using h2)) (h.set (hv 0 v u rfl rfl))
  | [], _ :: _, _, _, _, hl, _, _ => by simp at hl
  | _ :: _, [], _, _, _, hl, _, _ => by simp at hl

theorem setAt_length : ∀ (us : List V) (cs : List V) (off : Nat), (setAt cs off us).length = cs.length
  | [], _, _ => rfl
  | u :: us, cs, off => by simp [setAt, setAt_length us]

theorem RelV.parts {Λ : L} {v : Value} {x : V} {ps : List V} (h : RelV Λ v x) (hp : x.parts = some ps) : RelC Λ v.cells ps := by
  have one : ∀ {v : Value} {y : V}, v.cells = #[v] → RelV Λ v y → RelC Λ v.cells [y] := by
    intro v y hv hy
    rw [hv]
    refine ⟨rfl, fun j u c hu hc => ?_⟩
    cases j with
    | zero => simp at hu hc; subst hu; subst hc; exact hy
    | succ j => simp at hc
  cases h with
  | t h => simp [V.parts] at hp; subst hp; refine one ?_ (.t h); cases h <;> rfl
  | nils => simp [V.parts] at hp; subst hp; exact one rfl .nils
  | own h a b c d => simp [V.parts] at hp; subst hp; refine one ?_ (.own h a b c d); cases h <;> rfl
  | slc a c h => simp [V.parts] at hp; subst hp; exact one rfl (.slc a c h)
  | agg hs h => simp [V.parts] at hp; subst hp; exact ⟨by simpa [Value.cells] using hs, h⟩
  | tup _ _ => simp [V.parts] at hp
  | ptr a h => simp [V.parts] at hp; subst hp; exact one rfl (.ptr a h)
  | mp a h => simp [V.parts] at hp; subst hp; exact one rfl (.mp a h)
  | fn hs h => simp [V.parts] at hp; subst hp; exact one rfl (.fn hs h)
  | gd _ _ => simp [V.parts] at hp
  | top => simp [V.parts] at hp

theorem fill_sound {C : Ctx} {Λ : L} {ac : Act} (h : Rel C Λ st ac) (hg : gc = true) (place : Nat → Option (Nat × Nat)) : ∀ (parts : List (Nat × Operand)) (ps : List (Nat × Nat × Ar)) (arr : Array Value) (cs cs' : List V) (p : List Bool),
    partsOf place parts = some ps → RelC Λ arr cs → fillV st gc cs ps = some (cs', p) → (∀ q ∈ p, q) →
    ∃ arr', Instr.fill place arr (parts.map fun (i, x) => (i, ac.eval x)) = some arr' ∧ RelC Λ arr' cs'
  | [], ps, arr, cs, cs', p, hps, hr, hf, _ => by
    simp [partsOf] at hps; subst hps; simp [fillV] at hf; obtain ⟨rfl, rfl⟩ := hf
    exact ⟨arr, rfl, hr⟩
  | (i, x) :: parts, ps, arr, cs, cs', p, hps, hr, hf, hp => by
    simp only [partsOf] at hps
    split at hps
    · rename_i off n a l h1 h2 h3
      simp at hps; subst hps
      simp only [fillV] at hf
      generalize hrd : rd gc st a = va at hf
      obtain ⟨v, p1⟩ := va
      simp only at hf
      split at hf
      · simp at hf
      · rename_i us hus
        split at hf
        · rename_i hle
          split at hf
          · rename_i c q hrest
            simp at hf; obtain ⟨rfl, rfl⟩ := hf
            have hv := rd_sound h h2 hrd (fun q hq => hp q (by simp [hq])) hg
            have hc := hv.parts hus
            have hfold := RelC.foldl off (ac.eval x).cells.toList us 0 arr cs (by simpa using hc.1) (fun j a b e1 e2 => hc.2 j a b (by simpa using e1) e2) hr
            obtain ⟨arr', h4, h5⟩ := fill_sound h hg place parts l _ _ _ _ h3 hfold hrest (fun q hq => hp q (by simp [hq]))
            refine ⟨arr', ?_, h5⟩
            have hsz : (ac.eval x).cells.size = n := by rw [hc.1]; exact hle.1
            have hsz2 : arr.size = cs.length := hr.1
            simp only [List.map_cons, Instr.fill, h1, hsz]
            have : ¬ (off + n > arr.size) := by omega
            simp only [ne_eq, not_true_eq_false, decide_false, this, Bool.or_self, Bool.false_eq_true, if_false]
            rw [← h4]
            congr 1
            rw [← Array.foldl_toList, Array.toList_zipIdx]
          · simp at hf
        · simp at hf
    · simp at hps

theorem zerosOf_spec {t : TypeId} {zs : List V} (h : zerosOf P t = some zs) : ∃ i z, P.info? t = some i ∧ i.zero = some z ∧ zs.length = i.size ∧ zerosOk z.cells.toList zs = true := by
  unfold zerosOf at h
  split at h
  · rename_i i zs' hi _
    split at h
    · rename_i z hz
      split at h
      · rename_i hc
        simp at h; subst h
        simp at hc
        exact ⟨i, z, hi, hz, hc.2, hc.1⟩
      · simp at h
    · simp at h
  · simp at h

theorem zeros_relC {Λ : L} {z : Value} {zs : List V} (h : zerosOk z.cells.toList zs = true) : RelC Λ z.cells zs := by
  obtain ⟨h1, h2⟩ := zerosOk_at (Λ := Λ) h
  exact ⟨by simpa using h1, fun j v c hv hc => h2 j v c (by simpa using hv) hc⟩

theorem e_build {t : TypeId} {parts : Array (Nat × Operand)} {zs cs : List V} {ps : List (Nat × Nat × Ar)} {p : List Bool} (ho : o.op = .build t parts) (hz : zerosOf P t = some zs)
    (hps : (∃ fs pl, P.underlying t = some (.struct fs) ∧ placesOf P fs = some pl ∧ partsOf (pl.toArray[·]?) parts.toList = some ps) ∨
      (∃ m e sz, P.underlying t = some (.array m e) ∧ szOf P e = some sz ∧ partsOf (fun i => some (i * sz, sz)) parts.toList = some ps))
    (hf : fillV st gc zs ps = some (cs, p)) (hp : ∀ q ∈ p, q) : ESound P o gc st (.agg cs) := by
  intro C Λ ac _ hg h
  obtain ⟨i, z, hi, hz1, hlen, hok⟩ := zerosOf_spec hz
  have hrc := zeros_relC (Λ := Λ) hok
  have fin : ∀ arr', P.built t (parts.map fun (i, x) => (i, ac.eval x)).toList = some arr' → RelC Λ arr' cs → ∃ v, (execOp ac.eval o).run P Λ.w = .ok (.value v) Λ.w ∧ RelV Λ v (.agg cs) := by
    intro arr' h1 h2
    refine ⟨.agg arr', ?_, .agg h2.1 fun j v c e1 e2 => h2.2 j v c e1 e2⟩
    simp only [execOp, ho, Sem.run_bind, run_build Λ.w t _ arr' h1]
    rfl
  rcases hps with ⟨fs, pl, hu, hpl, hpo⟩ | ⟨m, e, sz, hu, hs, hpo⟩
  · obtain ⟨arr', h1, h2⟩ := fill_sound h hg _ _ _ _ _ _ _ hpo hrc hf hp
    refine fin arr' ?_ h2
    unfold placesOf at hpl
    simp only [Program.built, hi, hu, hz1, hpl, Array.toList_map]
    exact h1
  · obtain ⟨arr', h1, h2⟩ := fill_sound h hg _ _ _ _ _ _ _ hpo hrc hf hp
    refine fin arr' ?_ h2
    unfold szOf at hs
    cases hie : P.info? e with
    | none => rw [hie] at hs; simp at hs
    | some ie =>
      rw [hie] at hs; simp at hs; subst hs
      simp only [Program.built, hi, hu, hz1, hie, Array.toList_map]
      exact h1

theorem e_mkfn {f : FuncId} {first caps : Array Operand} {caps' : List Ar} {cs : List (Nat × Nat)} (ho : o.op = .makeFunc (.func f) first caps) (hfirst : first.isEmpty = true) (hc : caps.toList.mapM opA = some caps')
    (hcs : capsOf st caps' = some cs) : ESound P o gc st (.fn f cs) := by
  intro C Λ ac _ hg h
  have key : ∀ (xs : List Operand) (ys : List Ar) (cs : List (Nat × Nat)), xs.mapM opA = some ys → capsOf st ys = some cs →
      (xs.map ac.eval).length = cs.length ∧ ∀ (j : Nat) (v : Value) (c : Nat × Nat), (xs.map ac.eval)[j]? = some v → cs[j]? = some c → ∃ b, v = .pointer (some ⟨b, c.2, none⟩) ∧ Λ.lab b = .obj c.1 ∧ c.1 < Λ.nxt := by
    intro xs
    induction xs with
    | nil => intro ys cs h1 h2; simp at h1; subst h1; simp [capsOf] at h2; subst h2; simp
    | cons x xs ih =>
      intro ys cs h1 h2
      simp only [List.mapM_cons, Option.bind_eq_bind, Option.pure_def, Option.bind_eq_some_iff] at h1
      obtain ⟨y, hy, ys', hys, h1⟩ := h1
      simp at h1; subst h1
      simp only [capsOf] at h2
      split at h2
      · rename_i k off cs' hv hcs'
        simp at h2; subst h2
        obtain ⟨i1, i2⟩ := ih ys' cs' hys hcs'
        refine ⟨by simpa using i1, fun j v c hj hc => ?_⟩
        cases j with
        | zero =>
          simp at hj hc; subst hj; subst hc
          have hr := h.opd hy
          rw [hv] at hr
          generalize ac.eval x = u at hr
          cases hr with
          | @ptr b _ _ hk hb => exact ⟨b, rfl, hb, hk⟩
        | succ j => exact i2 j v c (by simpa using hj) (by simpa using hc)
      · simp at h2
  obtain ⟨k1, k2⟩ := key _ _ _ hc hcs
  have he : first = #[] := by simpa using hfirst
  subst he
  refine ⟨.func (.func f) #[] (caps.map ac.eval), by simp [execOp, ho, Instr.makeFunc], .fn (by simpa using k1) fun j v c hj hc => k2 j v c (by simpa using hj) hc⟩

theorem run_equal_step {t : TypeId} (x y : Value) (w : World) (b : Bool)
    (h : ∀ n, (Op.equalIn (n + 1) t x y).run P w = .ok b w) : (Op.equal t x y).run P w = .ok b w := h 9999

theorem e_eqn {neg : Bool} {t ty : TypeId} {x y : Operand} {x' : Ar} {v : V} {b : Bool} {p : List Bool} (hu : (∃ e, P.underlying t = some (.pointer e)) ∧ y = .const (.pointer none) ∨ (∃ k e, P.underlying t = some (.map k e)) ∧ y = .const (.map none))
    (ho : o.op = .binOp (if neg then .neq else .eql) t x y ty) (hx : opA x = some x') (h1 : rd gc st x' = (v, p)) (hp : ∀ q ∈ p, q)
    (hv : (y = .const (.pointer none) ∧ ((v = .t .nilp ∧ b = !neg) ∨ ((∃ k o, v = .ptr k o) ∧ b = neg) ∨ ((∃ c, v = .t (.ptr c)) ∧ b = neg))) ∨ (y = .const (.map none) ∧ ((v = .t .nilm ∧ b = !neg) ∨ ((∃ k, v = .mp k) ∧ b = neg)))) :
    ESound P o gc st (.t (.bool b)) := by
  intro C Λ ac _ hg h
  have hx1 := rd_sound h hx h1 hp hg
  generalize hv' : ac.eval x = u at hx1
  have hc : ∀ v, ac.eval (.const v) = v := fun _ => rfl
  refine ⟨.bool b, ?_, .t (.bool _)⟩
  rcases hv with ⟨hy, hv⟩ | ⟨hy, hv⟩
  · rcases hu with ⟨⟨e, hu⟩, _⟩ | ⟨_, hy'⟩
    · subst hy
      rcases hv with ⟨rfl, hb⟩ | ⟨⟨k, off, rfl⟩, hb⟩ | ⟨⟨c, rfl⟩, hb⟩
      · cases hx1 with
        | t h' =>
          cases h'
          have hq : (Op.equal t (.pointer none) (.pointer none)).run P Λ.w = .ok true Λ.w := run_equal_step _ _ Λ.w true (fun n => by simp [Op.equalIn, run_underlying hu])
          cases neg <;> simp [execOp, ho, hv', hc, eqGuard, binOp, hq, hb]
      · cases hx1 with
        | @ptr bl _ _ hk' h' =>
          have hq : (Op.equal t (.pointer (some ⟨bl, off, none⟩)) (.pointer none)).run P Λ.w = .ok false Λ.w := run_equal_step _ _ Λ.w false (fun n => by simp [Op.equalIn, run_underlying hu])
          cases neg <;> simp [execOp, ho, hv', hc, eqGuard, binOp, hq, hb]
      · cases hx1 with
        | t h' =>
          cases h' with
          | ptr _ bl off vf a1 a2 a3 =>
          have hq : (Op.equal t (.pointer (some ⟨bl, off, none⟩)) (.pointer none)).run P Λ.w = .ok false Λ.w := run_equal_step _ _ Λ.w false (fun n => by simp [Op.equalIn, run_underlying hu])
          cases neg <;> simp [execOp, ho, hv', hc, eqGuard, binOp, hq, hb]
    · rw [hy] at hy'; simp at hy'
  · rcases hu with ⟨_, hy'⟩ | ⟨⟨k, e, hu⟩, _⟩
    · rw [hy] at hy'; simp at hy'
    · subst hy
      rcases hv with ⟨rfl, hb⟩ | ⟨⟨k, rfl⟩, hb⟩
      · cases hx1 with
        | t h' =>
          cases h'
          have hq : (Op.equal t (.map none) (.map none)).run P Λ.w = .ok true Λ.w := run_equal_step _ _ Λ.w true (fun n => by simp [Op.equalIn, run_underlying hu])
          cases neg <;> simp [execOp, ho, hv', hc, eqGuard, binOp, hq, hb]
      · cases hx1 with
        | @mp bl _ hk' h' =>
          have hq : (Op.equal t (.map (some bl)) (.map none)).run P Λ.w = .ok false Λ.w := run_equal_step _ _ Λ.w false (fun n => by simp [Op.equalIn, run_underlying hu])
          cases neg <;> simp [execOp, ho, hv', hc, eqGuard, binOp, hq, hb]

theorem e_pick1 {c x y : Operand} {c' x' : Ar} {cb xa : Bool} {p1 p2 : List Bool} (ho : o.op = .pick c x y) (hc : opA c = some c') (hx : opA x = some x')
    (h1 : rd gc st c' = (.t (.bool cb), p1)) (h2 : rd (gc && cb) st x' = (.t (.bool xa), p2)) (hp : ∀ q ∈ p1 ++ (p2 ++ [cb]), q) : ESound P o gc st (.t (.bool xa)) := by
  intro C Λ a _ hg h
  have hc1 := rd_sound h hc h1 (fun q hq => hp q (by simp [hq])) hg
  have ec := hc1.repT.bool_inv
  have hcb : cb = true := hp cb (by simp)
  subst hcb
  have hx1 := rd_sound h hx h2 (fun q hq => hp q (by simp [hq])) (by simp [hg])
  exact ⟨a.eval x, by simp [execOp, ho, ec, asBool], .t hx1.repT⟩

theorem e_pick2 {c x y : Operand} {c' y' : Ar} {cb xb : Bool} {p1 p3 : List Bool} (ho : o.op = .pick c x y) (hc : opA c = some c') (hy : opA y = some y')
    (h1 : rd gc st c' = (.t (.bool cb), p1)) (h3 : rd (gc && !cb) st y' = (.t (.bool xb), p3)) (hp : ∀ q ∈ p1 ++ (p3 ++ [!cb]), q) : ESound P o gc st (.t (.bool xb)) := by
  intro C Λ a _ hg h
  have hc1 := rd_sound h hc h1 (fun q hq => hp q (by simp [hq])) hg
  have ec := hc1.repT.bool_inv
  have hcb : (!cb) = true := hp (!cb) (by simp)
  have hcb' : cb = false := by simpa using hcb
  subst hcb'
  have hy1 := rd_sound h hy h3 (fun q hq => hp q (by simp [hq])) (by simp [hg])
  exact ⟨a.eval y, by simp [execOp, ho, ec, asBool], .t hy1.repT⟩

end
end Go.GB
