/-
  GaI: the operations that only compute: parts of strings and slices, the greater and the lesser, structs built, closures made.
-/
import Derived.Test.YticfklecmdjklaaGbG
namespace Go.GB
section
variable {P : Program} {o : Oper} {gc : Bool} {st : St}

theorem extract_mk (s : List UInt8) (l h : Nat) : (⟨⟨s⟩⟩ : ByteArray).extract l h = ⟨⟨(s.take h).drop l⟩⟩ := by
  apply ByteArray.ext
  apply Array.ext'
  rw [Lib.extract_data]
  simp [List.drop_take]


theorem run_bound {k : IntKind} {n : Int} {y : Nat} (h0 : 0 ≤ n) (h1 : n ≤ y) (c : BoundsCode) (w : World) : (Instr.sliceBound (.int k n) y c).run P w = .ok n.toNat w := by
  simp [Instr.sliceBound, asIntOf, h0, h1]

theorem bnd_sound {C : Ctx} {Λ : L} {ac : Act} (h : Rel C Λ st ac) {y : Option Operand} {x : Option Ar} (hy : opAo y = some x) {d n : Int} {p : List Bool} (hb : bnd x gc st d = some (n, p))
    (hp : ∀ q ∈ p, q) (hg : gc = true) : (y = none ∧ n = d) ∨ ∃ z k, y = some z ∧ ac.eval z = .int k n := by
  cases y with
  | none =>
    simp [opAo] at hy; subst hy; simp [bnd] at hb
    exact .inl ⟨rfl, hb.1.symm⟩
  | some z =>
    simp only [opAo, Option.map_eq_some_iff] at hy
    obtain ⟨a, ha, rfl⟩ := hy
    simp only [bnd] at hb
    split at hb
    · rename_i m q hr
      simp at hb
      obtain ⟨rfl, rfl⟩ := hb
      have hv := rd_sound h ha hr hp hg
      exact .inr ⟨z, _, rfl, hv.repT.int_inv⟩
    · simp at hb

theorem run_sliceBounds {b : Bool} {len cap : Nat} {lo hi : Option Value} {l h : Int} (hlo : lo = none ∧ l = 0 ∨ ∃ k, lo = some (.int k l)) (hhi : hi = none ∧ h = len ∨ ∃ k, hi = some (.int k h))
    (h0 : 0 ≤ l) (h1 : l ≤ h) (h2 : h ≤ cap) (w : World) : (Instr.sliceBounds b len cap lo hi none).run P w = .ok (l.toNat, h.toNat, cap) w := by
  rcases hhi with ⟨rfl, rfl⟩ | ⟨k, rfl⟩
  · rcases hlo with ⟨rfl, rfl⟩ | ⟨k', rfl⟩
    · simp [Instr.sliceBounds]
    · simp [Instr.sliceBounds, run_bound h0 h1]
  · have hh : 0 ≤ h := by omega
    rcases hlo with ⟨rfl, rfl⟩ | ⟨k', rfl⟩
    · simp [Instr.sliceBounds, run_bound hh h2]
    · simp [Instr.sliceBounds, run_bound hh h2, run_bound (y := h.toNat) h0 (by omega)]

theorem e_sls {t : TypeId} {x : Operand} {lo hi : Option Operand} {x' : Ar} {lo' hi' : Option Ar} {s : List UInt8} {l h : Int} {p p1 p2 : List Bool} (hu : P.underlying t = some .string)
    (ho : o.op = .slice t x lo hi none) (hx : opA x = some x') (hl : opAo lo = some lo') (hh : opAo hi = some hi') (h1 : rd gc st x' = (.t (.str s), p))
    (h2 : bnd lo' gc st 0 = some (l, p1)) (h3 : bnd hi' gc st s.length = some (h, p2)) (hp : ∀ q ∈ p ++ (p1 ++ (p2 ++ [decide (0 ≤ l), decide (l ≤ h), decide (h ≤ (s.length : Int))])), q) :
    ESound P o gc st (.t (.str ((s.take h.toNat).drop l.toNat))) := by
  intro C Λ ac _ hg hr
  have hx1 := rd_sound hr hx h1 (fun q hq => hp q (by simp [hq])) hg
  have e1 := hx1.repT.str_inv
  have b1 := bnd_sound hr hl h2 (fun q hq => hp q (by simp [hq])) hg
  have b2 := bnd_sound hr hh h3 (fun q hq => hp q (by simp [hq])) hg
  have g0 : 0 ≤ l := of_decide_eq_true (hp _ (by simp))
  have g1 : l ≤ h := of_decide_eq_true (hp _ (by simp))
  have g2 : h ≤ s.length := of_decide_eq_true (hp _ (by simp))
  refine ⟨.string ⟨⟨(s.take h.toNat).drop l.toNat⟩⟩, ?_, .t (.str _)⟩
  have hb := run_sliceBounds (P := P) (b := false) (len := s.length) (cap := s.length) (lo := lo.map ac.eval) (hi := hi.map ac.eval) (l := l) (h := h)
    (by rcases b1 with ⟨rfl, rfl⟩ | ⟨z, k, rfl, e⟩ <;> simp [*]) (by rcases b2 with ⟨rfl, rfl⟩ | ⟨z, k, rfl, e⟩ <;> simp [*]) g0 g1 g2 Λ.w
  have hs : (⟨⟨s⟩⟩ : ByteArray).size = s.length := rfl
  simp only [execOp, ho, e1, Option.map_none]
  simp [Instr.sliceAt, Instr.slice, run_underlying hu, hs, hb, extract_mk]

theorem allLen_at {sz : Nat} {xs : List (List T)} (h : allLen sz xs = true) (i : Nat) (c : List T) (hc : xs[i]? = some c) : c.length = sz := by
  unfold allLen at h
  rw [List.all_eq_true] at h
  simpa using h c (List.mem_of_getElem? hc)

theorem RepT.sub {lb : Nat → Lab} {w : World} {a : Option Addr} {n cap sz l h : Nat} {xs : List (List T)} (hr : RepT lb w (.slice a n cap) (.lst xs)) (hsz : ∀ (i : Nat) (c : List T), xs[i]? = some c → c.length = sz)
    (h1 : l ≤ h) (h2 : h ≤ xs.length) : RepT lb w (.slice (if cap = l then a else a.map (·.add (l * sz))) (h - l) (cap - l)) (.lst ((xs.take h).drop l)) := by
  cases hr with
  | lst _ _ sz' _ b off vf hcap hsz' ha hr' hc' hrep =>
    have hlen : ((xs.take h).drop l).length = h - l := by simp; omega
    have hget : ∀ (i : Nat) (c : List T), ((xs.take h).drop l)[i]? = some c → xs[l + i]? = some c ∧ l + i < h := by
      intro i c hi
      rw [List.getElem?_drop, List.getElem?_take] at hi
      split at hi
      · exact ⟨hi, by assumption⟩
      · cases hi
    have key : RepT lb w (.slice (if cap = l then a else a.map (·.add (l * sz))) ((xs.take h).drop l).length (cap - l)) (.lst ((xs.take h).drop l)) := by
      refine .lst _ _ sz' _ b (off + l * sz') (fun i j => vf (l + i) j) (by rw [hlen]; omega) (fun i c hi => hsz' _ c (hget i c hi).1) ?_ ?_ ?_ ?_
      · intro i j c x hi hj
        have := (hget i c hi)
        have ea := ha _ j c x this.1 hj
        subst ea
        have : cap ≠ l := by omega
        have e1 := hsz _ c (hget i c hi).1
        have e2 := hsz' _ c (hget i c hi).1
        have : sz = sz' := by omega
        subst this
        simp [*, add_mk]
      · intro i j c x hi hj
        have := hr' _ j c x (hget i c hi).1 hj
        rwa [Nat.add_mul, ← Nat.add_assoc] at this
      · intro i j c x hi hj
        have := hc' _ j c x (hget i c hi).1 hj
        rwa [Nat.add_mul, ← Nat.add_assoc] at this
      · intro i j c x hi hj
        exact hrep _ j c x (hget i c hi).1 hj
    rwa [hlen] at key

theorem e_sll {t e : TypeId} {sz : Nat} {x : Operand} {lo hi : Option Operand} {x' : Ar} {lo' hi' : Option Ar} {v : V} {xs : List (List T)} {l h : Int} {p p1 p2 : List Bool} (hu : P.underlying t = some (.slice e)) (hs : szOf P e = some sz)
    (ho : o.op = .slice t x lo hi none) (hx : opA x = some x') (hl : opAo lo = some lo') (hh : opAo hi = some hi') (h1 : rd gc st x' = (v, p)) (hv : v.cell1 = some (.lst xs))
    (h2 : bnd lo' gc st 0 = some (l, p1)) (h3 : bnd hi' gc st xs.length = some (h, p2)) (hp : ∀ q ∈ p ++ (p1 ++ (p2 ++ [decide (0 ≤ l), decide (l ≤ h), decide (h ≤ (xs.length : Int)), allLen sz xs])), q) :
    ESound P o gc st (.t (.lst ((xs.take h.toNat).drop l.toNat))) := by
  intro C Λ ac _ hg hr
  have hx1 := rd_sound hr hx h1 (fun q hq => hp q (by simp [hq])) hg
  have b1 := bnd_sound hr hl h2 (fun q hq => hp q (by simp [hq])) hg
  have b2 := bnd_sound hr hh h3 (fun q hq => hp q (by simp [hq])) hg
  have g0 : 0 ≤ l := of_decide_eq_true (hp _ (by simp))
  have g1 : l ≤ h := of_decide_eq_true (hp _ (by simp))
  have g2 : h ≤ xs.length := of_decide_eq_true (hp _ (by simp))
  have hsz := allLen_at (hp (allLen sz xs) (by simp))
  have hrx := hx1.cell1 hv
  generalize hv' : ac.eval x = u at hrx
  have hrx' := hrx
  cases hrx with
  | lst a cap sz' _ b off vf hcap _ _ _ _ _ =>
    have hb := run_sliceBounds (P := P) (b := true) (len := xs.length) (cap := cap) (lo := lo.map ac.eval) (hi := hi.map ac.eval) (l := l) (h := h)
      (by rcases b1 with ⟨rfl, rfl⟩ | ⟨z, k, rfl, e⟩ <;> simp [*]) (by rcases b2 with ⟨rfl, rfl⟩ | ⟨z, k, rfl, e⟩ <;> simp [*]) g0 g1 (by omega) Λ.w
    refine ⟨_, ?_, .t (hrx'.sub hsz (l := l.toNat) (h := h.toNat) (by omega) (by omega))⟩
    simp only [execOp, ho, hv', Option.map_none]
    simp [Instr.sliceAt, Instr.slice, run_underlying hu, hb, szOf_run hs]

theorem e_max {b : Bool} {x y : Operand} {x' y' : Ar} {args : Array Operand} {ats : Array TypeId} {k : IntKind} {m n : Int} {p1 p2 : List Bool} (ha : args.toList = [x, y])
    (ho : o.op = .call { callee := .builtin (if b then .max else .min), args := args, argTypes := ats }) (hx : opA x = some x') (hy : opA y = some y')
    (h1 : rd gc st x' = (.t (.int k m), p1)) (h2 : rd gc st y' = (.t (.int k n), p2)) (hp : ∀ q ∈ p1 ++ p2, q) :
    ESound P o gc st (.t (.int k (if b then (if n > m then n else m) else (if n < m then n else m)))) := by
  intro C Λ ac _ hg h
  have hx1 := rd_sound h hx h1 (fun q hq => hp q (by simp [hq])) hg
  have hy1 := rd_sound h hy h2 (fun q hq => hp q (by simp [hq])) hg
  have e1 := hx1.repT.int_inv
  have e2 := hy1.repT.int_inv
  have hm : args.toList.map ac.eval = [.int k m, .int k n] := by simp [ha, e1, e2]
  refine ⟨_, ?_, .t (.int _ _)⟩
  cases b
  · simp only [execOp, ho, resolve, Sem.run_bind, Sem.run_pure, Result.andThen_ok, invoke, builtin, Bool.false_eq_true, if_false]
    simp [Builtin.min_, Builtin.min2, hm]
  · simp only [execOp, ho, resolve, Sem.run_bind, Sem.run_pure, Result.andThen_ok, invoke, builtin, if_true]
    simp [Builtin.max_, Builtin.max2, hm]

end
end Go.GB
