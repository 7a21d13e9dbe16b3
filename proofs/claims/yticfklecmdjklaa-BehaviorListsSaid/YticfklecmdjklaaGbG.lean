/-
  GaH: the operations that only compute: indices, lengths, parts, structs built.
-/
import Derived.Test.YticfklecmdjklaaGbF
namespace Go.GB
section
variable {P : Program} {o : Oper} {gc : Bool} {st : St}

theorem szOf_run {t : TypeId} {n : Nat} (h : szOf P t = some n) (w : World) : (sizeOf t).run P w = .ok n w := by
  unfold szOf at h
  cases hi : P.info? t with
  | none => rw [hi] at h; simp at h
  | some i => rw [hi] at h; simp at h; subst h; simp [sizeOf, typeInfo, hi]

theorem run_indexAt_slice {t e : TypeId} {sz : Nat} (hu : P.underlying t = some (.slice e)) (hs : szOf P e = some sz) {b off len cap : Nat} {k : IntKind} {n : Int} (h0 : 0 ≤ n) (h1 : n < len) (w : World) :
    (Instr.indexAt t (.slice (some ⟨b, off, none⟩) len cap) (.int k n)).run P w = .ok (.pointer (some ⟨b, off + n.toNat * sz, none⟩)) w := by
  simp [Instr.indexAt, asIntOf, run_underlying hu, szOf_run hs, h0, h1, add_mk]

theorem run_indexAt_array {t e : TypeId} {m sz : Nat} (hu : P.underlying t = some (.array m e)) (hs : szOf P e = some sz) {b off : Nat} {k : IntKind} {n : Int} (h0 : 0 ≤ n) (h1 : n < m) (w : World) :
    (Instr.indexAt t (.pointer (some ⟨b, off, none⟩)) (.int k n)).run P w = .ok (.pointer (some ⟨b, off + n.toNat * sz, none⟩)) w := by
  simp [Instr.indexAt, asIntOf, run_underlying hu, szOf_run hs, Instr.sureAddr, h0, h1, add_mk]

theorem lt_of_getElem? {xs : List (List T)} {n : Int} {c : List T} (h0 : 0 ≤ n) (h : xs[n.toNat]? = some c) : n < xs.length := by
  have := (List.getElem?_eq_some_iff.1 h).1
  omega

theorem e_ia {t e : TypeId} {sz : Nat} {x i : Operand} {x' i' : Ar} {v : V} {k : IntKind} {n : Int} {xs : List (List T)} {c : List T} {p1 p2 : List Bool}
    (hu : P.underlying t = some (.slice e)) (hs : szOf P e = some sz) (ho : o.op = .indexAddr t x i) (hx : opA x = some x') (hi : opA i = some i')
    (h1 : rd gc st x' = (v, p1)) (h2 : rd gc st i' = (.t (.int k n), p2)) (hv : v.cell1 = some (.lst xs)) (hc : xs[n.toNat]? = some c) (hsz : c.length = sz ∧ sz ≠ 0)
    (hp : ∀ q ∈ p1 ++ (p2 ++ [decide (0 ≤ n)]), q) : ESound P o gc st (.t (.ptr c)) := by
  intro C Λ ac _ hg h
  have hx1 := rd_sound h hx h1 (fun q hq => hp q (by simp [hq])) hg
  have hi1 := rd_sound h hi h2 (fun q hq => hp q (by simp [hq])) hg
  have h0 : 0 ≤ n := of_decide_eq_true (hp _ (by simp))
  have e2 := hi1.repT.int_inv
  have hr := hx1.cell1 hv
  generalize hv' : ac.eval x = u at hr
  have hlt := lt_of_getElem? h0 hc
  cases hr with
  | lst a cap sz' _ b off vf _ hsz' ha hr' hc' hrep =>
    obtain ⟨hcl, hz⟩ := hsz
    have e3 : c.length = sz' := hsz' _ _ hc
    have esz : sz' = sz := by omega
    subst esz
    have hlc : 0 < c.length := by omega
    have h0c : c[0]? = some c[0] := by simp [hlc]
    have ea := ha n.toNat 0 c _ hc h0c
    subst ea
    refine ⟨_, by simp only [execOp, ho, hv', e2]; simp [run_indexAt_slice hu hs h0 hlt], .t (.ptr c b _ (vf n.toNat) (fun j y hj => hr' n.toNat j c y hc hj) (fun j y hj => hc' n.toNat j c y hc hj) (fun j y hj => hrep n.toNat j c y hc hj))⟩

theorem e_ia_slc {t e : TypeId} {sz : Nat} {x i : Operand} {x' i' : Ar} {k : IntKind} {n : Int} {q off len : Nat} {p1 p2 : List Bool}
    (hu : P.underlying t = some (.slice e)) (hs : szOf P e = some sz) (ho : o.op = .indexAddr t x i) (hx : opA x = some x') (hi : opA i = some i')
    (h1 : rd gc st x' = (.slc q off len sz, p1)) (h2 : rd gc st i' = (.t (.int k n), p2)) (hp : ∀ q ∈ p1 ++ (p2 ++ [decide (0 ≤ n), decide (n < (len : Int))]), q) : ESound P o gc st (.ptr q (off + n.toNat * sz)) := by
  intro C Λ ac _ hg h
  have hx1 := rd_sound h hx h1 (fun q hq => hp q (by simp [hq])) hg
  have hi1 := rd_sound h hi h2 (fun q hq => hp q (by simp [hq])) hg
  have h0 : 0 ≤ n := of_decide_eq_true (hp _ (by simp))
  have hlt : n < len := of_decide_eq_true (hp _ (by simp))
  have e2 := hi1.repT.int_inv
  generalize hv' : ac.eval x = u at hx1
  cases hx1 with
  | slc hk _ h' => exact ⟨_, by simp only [execOp, ho, hv', e2]; simp [run_indexAt_slice hu hs h0 hlt], .ptr hk h'⟩

theorem e_iarr {t e : TypeId} {m sz : Nat} {x i : Operand} {x' i' : Ar} {k : IntKind} {n : Int} {v r : V} {p1 p2 : List Bool}
    (hu : P.underlying t = some (.array m e)) (hs : szOf P e = some sz) (ho : o.op = .indexAddr t x i) (hx : opA x = some x') (hi : opA i = some i')
    (h1 : rd gc st x' = (v, p1)) (h2 : rd gc st i' = (.t (.int k n), p2)) (hp : ∀ q ∈ p1 ++ (p2 ++ [decide (0 ≤ n), decide (n < (m : Int))]), q)
    (hv : (∃ a b, v = .ptr a b ∧ r = .ptr a (b + n.toNat * sz)) ∨ ∃ c, v = .t (.ptr c) ∧ r = .t (.ptr (c.drop (n.toNat * sz)))) : ESound P o gc st r := by
  intro C Λ ac _ hg h
  have hx1 := rd_sound h hx h1 (fun q hq => hp q (by simp [hq])) hg
  have hi1 := rd_sound h hi h2 (fun q hq => hp q (by simp [hq])) hg
  have h0 : 0 ≤ n := of_decide_eq_true (hp _ (by simp))
  have hlt : n < m := of_decide_eq_true (hp _ (by simp))
  have e2 := hi1.repT.int_inv
  rcases hv with ⟨a, b, rfl, rfl⟩ | ⟨c, rfl, rfl⟩
  · generalize hv' : ac.eval x = u at hx1
    cases hx1 with
    | ptr hk h' => exact ⟨_, by simp only [execOp, ho, hv', e2]; simp [run_indexAt_array hu hs h0 hlt], .ptr hk h'⟩
  · have hr := hx1.repT
    obtain ⟨b, o', hv'⟩ := hr.ptr_inv
    rw [hv'] at hr
    exact ⟨_, by simp only [execOp, ho, hv', e2]; simp [run_indexAt_array hu hs h0 hlt], .t hr.ptr_drop⟩

theorem e_ixs {t : TypeId} {x i : Operand} {x' i' : Ar} {k : IntKind} {n : Int} {s : List UInt8} {b : UInt8} {p1 p2 : List Bool}
    (hu : P.underlying t = some .string) (ho : o.op = .index t x i) (hx : opA x = some x') (hi : opA i = some i')
    (h1 : rd gc st x' = (.t (.str s), p1)) (h2 : rd gc st i' = (.t (.int k n), p2)) (hb : s[n.toNat]? = some b) (hp : ∀ q ∈ p1 ++ (p2 ++ [decide (0 ≤ n)]), q) : ESound P o gc st (.t (.int .u8 b.toNat)) := by
  intro C Λ ac _ hg h
  have hx1 := rd_sound h hx h1 (fun q hq => hp q (by simp [hq])) hg
  have hi1 := rd_sound h hi h2 (fun q hq => hp q (by simp [hq])) hg
  have h0 : 0 ≤ n := of_decide_eq_true (hp _ (by simp))
  have e1 := hx1.repT.str_inv
  have e2 := hi1.repT.int_inv
  have e3 : (⟨⟨s⟩⟩ : ByteArray)[n.toNat]? = some b := by
    have hlt := (List.getElem?_eq_some_iff.1 hb).1
    rw [getElem?_pos (⟨⟨s⟩⟩ : ByteArray) n.toNat (by exact hlt)]
    obtain ⟨_, rfl⟩ := List.getElem?_eq_some_iff.1 hb
    rfl
  refine ⟨.int .u8 b.toNat, ?_, .t (.int _ _)⟩
  simp only [execOp, ho, e1, e2]
  simp [Instr.index, asIntOf, run_underlying hu, h0, e3]

theorem part_one {t : TypeId} {d : TypeDesc} (hu : P.underlying t = some d) (ha : isAggT P t = false) {vs : Array Value} {off : Nat} {v : Value} (hv : vs[off]? = some v) (w : World) : (part t vs off).run P w = .ok v w := by
  have hagg : (isAgg t).run P w = .ok false w := by
    unfold isAgg
    rw [Sem.run_bind, run_underlying hu w]
    unfold isAggT at ha
    rw [hu] at ha
    cases d <;> simp_all
  simp [part, hagg, hv]

theorem part_agg {t : TypeId} {n : Nat} (hn : szOf P t = some n) (ha : isAggT P t = true) {vs : Array Value} {off : Nat} (w : World) : (part t vs off).run P w = .ok (.agg (vs.extract off (off + n))) w := by
  have hagg : (isAgg t).run P w = .ok true w := by
    unfold isAgg
    unfold isAggT at ha
    cases hu : P.underlying t with
    | none => rw [hu] at ha; simp at ha
    | some d =>
      rw [hu] at ha
      rw [Sem.run_bind, run_underlying hu w]
      cases d <;> simp_all
  simp [part, hagg, szOf_run hn]

theorem RelV.sub {Λ : L} {vs : Array Value} {cs : List V} (hs : vs.size = cs.length) (h : ∀ (j : Nat) (v : Value) (c : V), vs[j]? = some v → cs[j]? = some c → RelV Λ v c) {off n : Nat} (_ : off + n ≤ cs.length) :
    RelV Λ (.agg (vs.extract off (off + n))) (.agg ((cs.drop off).take n)) := by
  have := RelV.subL (Λ := Λ) (vs := vs.toList) (cs := cs) (fun j v c e1 e2 => h j v c (by simpa using e1) e2) (by simpa using hs) off n
  have e : ((vs.toList.drop off).take n).toArray = vs.extract off (off + n) := by
    apply Array.ext'
    simp [Nat.add_sub_cancel_left]
  rwa [e] at this

theorem e_fld {t : TypeId} {fs : Array Field} {f : Nat} {fd : Field} {d : TypeDesc} {x : Operand} {x' : Ar} {cs : List V} {c : V} {p : List Bool} (hu : P.underlying t = some (.struct fs)) (hf : fs[f]? = some fd)
    (hd : P.underlying fd.type = some d) (ha : isAggT P fd.type = false)
    (ho : o.op = .field t x f) (hx : opA x = some x') (h1 : rd gc st x' = (.agg cs, p)) (hp : ∀ q ∈ p, q) (hc : cs[fd.offset]? = some c) : ESound P o gc st c := by
  intro C Λ ac _ hg h
  have hx1 := rd_sound h hx h1 hp hg
  generalize hv' : ac.eval x = u at hx1
  cases hx1 with
  | @agg vs _ hs h' =>
    have hlt := (List.getElem?_eq_some_iff.1 hc).1
    have hg' : vs[fd.offset]? = some (vs[fd.offset]'(by omega)) := by simp
    refine ⟨_, ?_, (h' _ _ c hg' hc)⟩
    simp only [execOp, ho, hv']
    simp [Instr.field, run_underlying hu, hf, asAgg, part_one hd ha hg']

theorem e_flda {t : TypeId} {fs : Array Field} {f : Nat} {fd : Field} {n : Nat} {x : Operand} {x' : Ar} {cs : List V} {p : List Bool} (hu : P.underlying t = some (.struct fs)) (hf : fs[f]? = some fd)
    (hn : szOf P fd.type = some n) (ha : isAggT P fd.type = true)
    (ho : o.op = .field t x f) (hx : opA x = some x') (h1 : rd gc st x' = (.agg cs, p)) (hp : ∀ q ∈ p, q) (hl : fd.offset + n ≤ cs.length) : ESound P o gc st (.agg (((cs.drop fd.offset).take n))) := by
  intro C Λ ac _ hg h
  have hx1 := rd_sound h hx h1 hp hg
  generalize hv' : ac.eval x = u at hx1
  cases hx1 with
  | @agg vs _ hs h' =>
    refine ⟨_, ?_, RelV.sub hs h' hl⟩
    simp only [execOp, ho, hv']
    simp [Instr.field, run_underlying hu, hf, asAgg, part_agg hn ha]

theorem e_ixa {t e : TypeId} {m sz : Nat} {d : TypeDesc} {x i : Operand} {x' i' : Ar} {k : IntKind} {n : Int} {cs : List V} {c : V} {p1 p2 : List Bool}
    (hu : P.underlying t = some (.array m e)) (hs : szOf P e = some sz) (hd : P.underlying e = some d) (ha : isAggT P e = false) (ho : o.op = .index t x i) (hx : opA x = some x') (hi : opA i = some i')
    (h1 : rd gc st x' = (.agg cs, p1)) (h2 : rd gc st i' = (.t (.int k n), p2)) (hc : cs[n.toNat * sz]? = some c) (hp : ∀ q ∈ p1 ++ (p2 ++ [decide (0 ≤ n), decide (n < (m : Int))]), q) : ESound P o gc st c := by
  intro C Λ ac _ hg h
  have hx1 := rd_sound h hx h1 (fun q hq => hp q (by simp [hq])) hg
  have hi1 := rd_sound h hi h2 (fun q hq => hp q (by simp [hq])) hg
  have h0 : 0 ≤ n := of_decide_eq_true (hp _ (by simp))
  have hlt : n < m := of_decide_eq_true (hp _ (by simp))
  have e2 := hi1.repT.int_inv
  generalize hv' : ac.eval x = u at hx1
  cases hx1 with
  | @agg vs _ hs' h' =>
    have hlt' := (List.getElem?_eq_some_iff.1 hc).1
    have hg' : vs[n.toNat * sz]? = some (vs[n.toNat * sz]'(by omega)) := by simp
    refine ⟨_, ?_, (h' _ _ c hg' hc)⟩
    simp only [execOp, ho, hv', e2]
    simp [Instr.index, asIntOf, run_underlying hu, h0, hlt, szOf_run hs, part_one hd ha hg']

theorem e_ixaa {t e : TypeId} {m sz : Nat} {x i : Operand} {x' i' : Ar} {k : IntKind} {n : Int} {cs : List V} {p1 p2 : List Bool}
    (hu : P.underlying t = some (.array m e)) (hs : szOf P e = some sz) (ha : isAggT P e = true) (ho : o.op = .index t x i) (hx : opA x = some x') (hi : opA i = some i')
    (h1 : rd gc st x' = (.agg cs, p1)) (h2 : rd gc st i' = (.t (.int k n), p2)) (hl : n.toNat * sz + sz ≤ cs.length) (hp : ∀ q ∈ p1 ++ (p2 ++ [decide (0 ≤ n), decide (n < (m : Int))]), q) :
    ESound P o gc st (.agg (((cs.drop (n.toNat * sz)).take sz))) := by
  intro C Λ ac _ hg h
  have hx1 := rd_sound h hx h1 (fun q hq => hp q (by simp [hq])) hg
  have hi1 := rd_sound h hi h2 (fun q hq => hp q (by simp [hq])) hg
  have h0 : 0 ≤ n := of_decide_eq_true (hp _ (by simp))
  have hlt : n < m := of_decide_eq_true (hp _ (by simp))
  have e2 := hi1.repT.int_inv
  generalize hv' : ac.eval x = u at hx1
  cases hx1 with
  | @agg vs _ hs' h' =>
    refine ⟨_, ?_, RelV.sub hs' h' hl⟩
    simp only [execOp, ho, hv', e2]
    simp [Instr.index, asIntOf, run_underlying hu, h0, hlt, szOf_run hs, part_agg hs ha]

theorem e_len {t : TypeId} {x : Operand} {x' : Ar} {args : Array Operand} {ats : Array TypeId} {d : TypeDesc} {v : V} {n : Nat} {p : List Bool} (ha : args[0]? = some x) (hat : ats[0]? = some t) (hu : P.underlying t = some d)
    (hd : d = .string ∨ ∃ e, d = .slice e) (ho : o.op = .call { callee := .builtin .len, args := args, argTypes := ats }) (hx : opA x = some x') (h1 : rd gc st x' = (v, p)) (hp : ∀ q ∈ p, q)
    (hv : (d = .string ∧ ∃ s, v = .t (.str s) ∧ n = s.length) ∨ ((∃ e, d = .slice e) ∧ ((∃ xs, v.cell1 = some (.lst xs) ∧ n = xs.length) ∨ ∃ a b c, v = .slc a b n c))) : ESound P o gc st (.t (.int .i64 n)) := by
  intro C Λ ac _ hg h
  have hx1 := rd_sound h hx h1 hp hg
  have hax : (args.map ac.eval)[0]? = some (ac.eval x) := by simp [ha]
  refine ⟨.int .i64 n, ?_, .t (.int _ _)⟩
  rcases hv with ⟨rfl, s, rfl, rfl⟩ | ⟨⟨e, rfl⟩, ⟨xs, hc, rfl⟩ | ⟨a, b, c, rfl⟩⟩
  · have e1 := hx1.repT.str_inv
    rw [e1] at hax
    simp only [execOp, ho, resolve, Sem.run_bind, Sem.run_pure, Result.andThen_ok, invoke, builtin]
    simp [Builtin.len_, hat, hax, run_underlying hu, goInt]
    rfl
  · have hr := hx1.cell1 hc
    generalize hv' : ac.eval x = u at hr hax
    cases hr with
    | lst a cap sz _ b off vf _ h1 h2 h3 h4 h5 =>
      simp only [execOp, ho, resolve, Sem.run_bind, Sem.run_pure, Result.andThen_ok, invoke, builtin]
      simp [Builtin.len_, hat, hax, run_underlying hu, goInt]
  · generalize hv' : ac.eval x = u at hx1 hax
    cases hx1 with
    | slc hk _ h' =>
      simp only [execOp, ho, resolve, Sem.run_bind, Sem.run_pure, Result.andThen_ok, invoke, builtin]
      simp [Builtin.len_, hat, hax, run_underlying hu, goInt]

end
end Go.GB
