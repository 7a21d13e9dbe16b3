/-
  YtpagjojfjeanlaaP2: lemmas of this proof (part 2). No conditions.
-/
import Derived.Test.YtpagjojfjeanlaaP1
import Derived.Laws.Externs
import Derived.KernelRfl
import Derived.Laws.BytesArg
import Derived.Maps.RangeRun
import Derived.LaidEqlPtr

/-
  GbMq: the map operations, each as the model carries it out.
-/
namespace Go.GB

theorem Tv_inj {s : KSh} {x y : T} (hx : s.ok x = true) (hy : s.ok y = true) (h : x.eqb y = true) : Tv x = Tv y := by
  cases x <;> cases s <;> simp [KSh.ok] at hx <;> cases y <;> simp [KSh.ok] at hy <;> simp [T.eqb] at h <;> simp_all [Tv]

theorem keyEq_map : ∀ {ks : List KSh} {cs ds : List T}, keyOk ks cs = true → keyOk ks ds = true → keyEq cs ds = true → cs.map Tv = ds.map Tv
  | [], [], [], _, _, _ => rfl
  | [], _ :: _, _, h, _, _ => by simp [keyOk] at h
  | [], _, _ :: _, _, h, _ => by simp [keyOk] at h
  | _ :: _, [], _, h, _, _ => by simp [keyOk] at h
  | _ :: _, _ :: _, [], _, h, _ => by simp [keyOk] at h
  | s :: r, x :: c, y :: d, h1, h2, h3 => by
    simp only [keyOk, keyEq, Bool.and_eq_true] at h1 h2 h3
    simp only [List.map_cons]
    rw [Tv_inj h1.1 h2.1 h3.1, keyEq_map h1.2 h2.2 h3.2]
theorem keyEq_kv {ks : List KSh} {kag : Bool} {cs ds : List T} (h1 : keyOk ks cs = true) (h2 : keyOk ks ds = true) (h3 : keyEq cs ds = true) : kv kag cs = kv kag ds := by
  have e := keyEq_map h1 h2 h3
  unfold kv
  cases kag with
  | true => simp only [if_true]; rw [e]
  | false =>
    match cs, ds, e with
    | [], [], _ => rfl
    | [], _ :: _, e => cases e
    | _ :: _, [], e => cases e
    | [x], [y], e => simpa using e
    | [_], _ :: _ :: _, e => simp at e
    | _ :: _ :: _, [_], e => simp at e
    | _ :: _ :: _, _ :: _ :: _, _ => rfl

theorem mfind_at : ∀ {k : List T} {es : List (List T × V)} {i : Nat}, mfind k es = some i → ∃ e, es[i]? = some e ∧ keyEq k e.1 = true ∧ mget k es = some e.2 ∧ (∀ v, mset k v es = es.set i (k, v)) ∧ mdrop k es = es.eraseIdx i
  | k, [], i, h => by simp [mfind] at h
  | k, e :: r, i, h => by
    simp only [mfind] at h
    split at h
    · rename_i hk
      simp at h; subst h
      exact ⟨e, rfl, hk, by simp [mget, hk], fun v => by simp [mset, hk], by simp [mdrop, hk]⟩
    · rename_i hk
      simp only [Option.map_eq_some_iff] at h
      obtain ⟨j, hj, rfl⟩ := h
      obtain ⟨e', h1, h2, h3, h4, h5⟩ := mfind_at hj
      exact ⟨e', by simpa using h1, h2, by simp [mget, hk, h3], fun v => by simp [mset, hk, h4], by simp [mdrop, hk, h5]⟩
theorem mfind_none : ∀ {k : List T} {es : List (List T × V)}, mfind k es = none → mget k es = none ∧ (∀ v, mset k v es = es ++ [(k, v)]) ∧ mdrop k es = es
  | k, [], _ => ⟨rfl, fun _ => rfl, rfl⟩
  | k, e :: r, h => by
    simp only [mfind] at h
    split at h
    · cases h
    · rename_i hk
      have hr : mfind k r = none := by simpa using h
      obtain ⟨h1, h2, h3⟩ := mfind_none hr
      exact ⟨by simp [mget, hk, h1], fun v => by simp [mset, hk, h2], by simp [mdrop, hk, h3]⟩

section
variable {P : Program} {o : Oper} {gc : Bool} {base : Nat} {st : St}

theorem xtrOf_inv {f : FuncId} {cnt : Option Bool} (h : xtrOf P f = some cnt) : ∃ fn, P.funcs[f]? = some fn ∧ fn.body.isNone = true ∧ fn.origin = "" ∧ fn.name = (match cnt with | some true => "internal/bytealg.CountString" | some false => "internal/bytealg.IndexByteString" | none => "internal/bytealg.abigen_runtime_cmpstring") := by
  unfold xtrOf at h
  split at h
  · rename_i fn hf
    split at h
    · rename_i h1
      split at h
      · rename_i h2
        simp at h; subst h
        exact ⟨fn, hf, h1.1, h1.2, by simpa using h2⟩
      · split at h
        · rename_i h2
          simp at h; subst h
          exact ⟨fn, hf, h1.1, h1.2, by simpa using h2⟩
        · split at h
          · rename_i h2
            simp at h; subst h
            exact ⟨fn, hf, h1.1, h1.2, by simpa using h2⟩
          · simp at h
    · simp at h
  · simp at h

theorem xtr_next0 : (Extern.allNextRows.lookup "" : Option Extern.NextRow) = none := by kernel_rfl
theorem xtr_next1 : (Extern.allNextRows.lookup "internal/bytealg.CountString" : Option Extern.NextRow) = none := by kernel_rfl
theorem xtr_next3 : (Extern.allNextRows.lookup "internal/bytealg.abigen_runtime_cmpstring" : Option Extern.NextRow) = none := by kernel_rfl
theorem xtr_next2 : (Extern.allNextRows.lookup "internal/bytealg.IndexByteString" : Option Extern.NextRow) = none := by kernel_rfl

theorem xtr_fn {fn : Func} (hn : (Extern.allNextRows.lookup fn.name : Option Extern.NextRow) = none) (ho : (Extern.allNextRows.lookup fn.origin : Option Extern.NextRow) = none) : Extern.findNext fn = none := by
  show ((Extern.allNextRows.lookup fn.name).map (· fn.params fn.resultTypes) <|> (Extern.allNextRows.lookup fn.origin).map (· fn.params fn.resultTypes)) = none
  rw [hn, ho]; rfl
theorem xtr_run {f : FuncId} {cnt : Bool} (h : xtrOf P f = some (some cnt)) (s : List UInt8) (c : Int) (w : World) :
    (callFunc f #[.string ⟨⟨s⟩⟩, .int .u8 c]).run P w = .ok (.value (.int .i64 (if cnt then (Go.Lib.countByte s c.toNat.toUInt8 : Int) else Go.Lib.indexByte s c.toNat.toUInt8))) w := by
  obtain ⟨fn, hf, hb, ho, hn⟩ := xtrOf_inv h
  cases cnt with
  | true =>
    simp only at hn
    have he : Extern.find fn = some Extern.BytealgCount.count := by
      unfold Extern.find
      rw [hn]
      rfl
    rw [run_callFunc_extern hf (by rw [hn]; rfl) hb (xtr_fn (by rw [hn]; exact xtr_next1) (by rw [ho]; exact xtr_next0)) he]
    rw [Go.Lib.run_countString]
    rfl
  | false =>
    simp only at hn
    have he : Extern.find fn = some Extern.BytealgIndexByte.indexByte := by
      unfold Extern.find
      rw [hn]
      rfl
    rw [run_callFunc_extern hf (by rw [hn]; rfl) hb (xtr_fn (by rw [hn]; exact xtr_next2) (by rw [ho]; exact xtr_next0)) he]
    rw [Go.Lib.run_indexByteString]
    rfl

theorem e_xtr {f : FuncId} {cnt : Bool} {args : Array Operand} {ats : Array TypeId} {x y : Operand} {x' y' : Ar} {v : V} {ps : List Bool} (hop : o.op = .call { callee := .value (.func f), args := args, argTypes := ats }) (ha : args.toList = [x, y])
    (hf : xtrOf P f = some (some cnt)) (hx : opA x = some x') (hy : opA y = some y') (he : evalN gc st (.xtr cnt x' y') = some (v, ps)) (hp : ∀ q ∈ ps, q) : ESound P o gc st v := by
  intro C Λ ac _ hg h
  simp only [evalN] at he
  split at he
  · rename_i s p1 c p2 h1 h2
    simp only [Option.some.injEq, Prod.mk.injEq] at he
    obtain ⟨rfl, rfl⟩ := he
    have hx1 := rd_sound h hx h1 (fun q hq => hp q (by simp [hq])) hg
    have hy1 := rd_sound h hy h2 (fun q hq => hp q (by simp [hq])) hg
    have e1 := hx1.repT.str_inv
    have e2 := hy1.repT.int_inv
    have hm : args.toList.map ac.eval = [.string ⟨⟨s⟩⟩, .int .u8 c] := by simp [ha, e1, e2]
    have hm2 : args.map ac.eval = #[.string ⟨⟨s⟩⟩, .int .u8 c] := by
      apply Array.ext'
      simpa using hm
    refine ⟨_, ?_, .t (.int _ _)⟩
    simp only [execOp, hop, resolve, Act.eval, Deferred.ofValue, Sem.run_bind, Sem.run_pure, Result.andThen_ok, invoke, hm2]
    exact xtr_run hf s c Λ.w
  · cases he

theorem xcm_run {f : FuncId} (h : xtrOf P f = some none) (s r : List UInt8) (w : World) :
    (callFunc f #[.string ⟨⟨s⟩⟩, .string ⟨⟨r⟩⟩]).run P w = .ok (.value (.int .i64 (Go.Lib.compareBytes s r))) w := by
  obtain ⟨fn, hf, hb, ho, hn⟩ := xtrOf_inv h
  simp only at hn
  have he : Extern.find fn = some Extern.BytealgCompare.compare := by
    unfold Extern.find
    rw [hn]
    rfl
  rw [run_callFunc_extern hf (by rw [hn]; rfl) hb (xtr_fn (by rw [hn]; exact xtr_next3) (by rw [ho]; exact xtr_next0)) he]
  rw [Go.Lib.run_compareString]
  rfl

theorem e_xcm {f : FuncId} {args : Array Operand} {ats : Array TypeId} {x y : Operand} {x' y' : Ar} {v : V} {ps : List Bool} (hop : o.op = .call { callee := .value (.func f), args := args, argTypes := ats }) (ha : args.toList = [x, y])
    (hf : xtrOf P f = some none) (hx : opA x = some x') (hy : opA y = some y') (he : evalN gc st (.xcm x' y') = some (v, ps)) (hp : ∀ q ∈ ps, q) : ESound P o gc st v := by
  intro C Λ ac _ hg h
  simp only [evalN] at he
  split at he
  · rename_i s p1 c p2 h1 h2
    simp only [Option.some.injEq, Prod.mk.injEq] at he
    obtain ⟨rfl, rfl⟩ := he
    have hx1 := rd_sound h hx h1 (fun q hq => hp q (by simp [hq])) hg
    have hy1 := rd_sound h hy h2 (fun q hq => hp q (by simp [hq])) hg
    have e1 := hx1.repT.str_inv
    have e2 := hy1.repT.str_inv
    have hm : args.toList.map ac.eval = [.string ⟨⟨s⟩⟩, .string ⟨⟨c⟩⟩] := by simp [ha, e1, e2]
    have hm2 : args.map ac.eval = #[.string ⟨⟨s⟩⟩, .string ⟨⟨c⟩⟩] := by
      apply Array.ext'
      simpa using hm
    refine ⟨_, ?_, .t (.int _ _)⟩
    simp only [execOp, hop, resolve, Act.eval, Deferred.ofValue, Sem.run_bind, Sem.run_pure, Result.andThen_ok, invoke, hm2]
    exact xcm_run hf s c Λ.w
  · cases he

theorem zeroOne_run {t : TypeId} {zv : V} (h : zeroOne P t = some zv) (w : World) : ∃ z, (zeroValue t).run P w = .ok z w ∧ ∀ Λ, RelV Λ z zv := by
  unfold zeroOne at h
  cases hz : zerosOf P t with
  | none => rw [hz] at h; simp at h
  | some zs =>
    obtain ⟨i, z, hi, hz1, hlen, hok⟩ := zerosOf_spec hz
    have hrun : (zeroValue t).run P w = .ok z w := by simp [zeroValue, typeInfo, hi, hz1]
    have hb : (P.info? t).bind (·.zero) = some z := by simp [hi, hz1]
    rw [hz, hb] at h
    refine ⟨z, hrun, fun Λ => ?_⟩
    have hrc := zeros_relC (Λ := Λ) hok
    have one : ∀ (y : V), zs = [y] → z.cells = #[z] → RelV Λ z y := by
      intro y hy hc
      exact hrc.2 0 z y (by rw [hc]; rfl) (by rw [hy]; rfl)
    split at h
    · rename_i e1 e2
      simp at e1 e2 h; subst e1; subst e2; subst h
      exact .agg (by simpa [Value.cells] using hrc.1) fun j v c a b => hrc.2 j v c (by simpa [Value.cells] using a) b
    all_goals first
      | (rename_i e1 e2
         simp at e1 e2 h
         obtain rfl := h
         subst e2
         exact one _ e1 rfl)
      | (simp at h)

theorem RelS.objMap {Λ : L} {s : S} (h : RelS Λ s) {k : Nat} {kag : Bool} {es : List (List T × V)} {sx : Option (Nat × List Nat)} (hk : aget s.sto k = some (.map kag es sx)) {b : Nat} (hb : Λ.lab b = .obj k) :
    ∃ (ents : Array MapEntry) (clock : Nat), Λ.w.heap[b]? = some (.map ents clock) ∧ RepM Λ kag ents clock es sx := by
  obtain ⟨b', ents, clock, h1, h2, h3⟩ := (h.sto k _ hk).2
  obtain rfl := h.inj b b' k hb h1
  exact ⟨ents, clock, h2, h3⟩

theorem RepM.keyed {Λ : L} {kag : Bool} {ents : Array MapEntry} {clock : Nat} {es : List (List T × V)} {sx : Option (Nat × List Nat)} (h : RepM Λ kag ents clock es sx) {ks : List KSh} (hok : keysOk ks es = true) :
    ∀ (i : Nat) (e : MapEntry) (x : List T × V), ents[i]? = some e → es[i]? = some x → e.key = kv kag x.1 := by
  intro i e x a b
  unfold keysOk at hok
  rw [List.all_eq_true] at hok
  exact (h.at_ i e x a b).1.plain (hok x (List.mem_of_getElem? b))

theorem RepM.val {Λ : L} {kag : Bool} {ents : Array MapEntry} {clock : Nat} {es : List (List T × V)} {sx : Option (Nat × List Nat)} (h : RepM Λ kag ents clock es sx) {i : Nat} {x : List T × V} (hx : es[i]? = some x) : ∃ e, ents[i]? = some e ∧ RelV Λ e.val x.2 := by
  have hlt : i < ents.size := by rw [h.size]; exact (List.getElem?_eq_some_iff.1 hx).1
  exact ⟨ents[i], by simp [hlt], (h.at_ i _ x (by simp [hlt]) hx).2⟩

theorem okV_rel {Λ : L} {v : Value} {x : V} (h : RelV Λ v x) (ok b : Bool) : RelV Λ (if ok then .tuple #[v, .bool b] else v) (okV ok x b) := by
  cases ok with
  | false => exact h
  | true =>
    refine .tup rfl fun j u c hu hc => ?_
    match j, hu, hc with
    | 0, hu, hc => simp at hu hc; subst hu; subst hc; exact h
    | 1, hu, hc => simp at hu hc; subst hu; subst hc; exact .t (.bool b)

theorem e_lookup {t kt et : TypeId} {x k : Operand} {ok : Bool} {ks : List KSh} {kag : Bool} {zv : V} {x' k' : Ar} {v : V} {ps : List Bool} (hop : o.op = .lookup t x k ok) (hu : P.underlying t = some (.map kt et)) (hK : keySh P kt = some (ks, kag)) (hz : zeroOne P et = some zv)
    (hx : opA x = some x') (hk : opA k = some k') (he : evalN gc st (.lookup ks kag zv ok x' k') = some (v, ps)) (hp : ∀ q ∈ ps, q) : ESound P o gc st v := by
  intro C Λ a hC hg hr
  simp only [evalN] at he
  generalize h1 : rd gc st x' = rx at he
  generalize h2 : rd gc st k' = rk at he
  obtain ⟨vx, p1⟩ := rx
  obtain ⟨vk, p2⟩ := rk
  simp only at he
  split at he
  · cases he
  · rename_i cs hkc
    obtain ⟨z, hz1, hz2⟩ := zeroOne_run hz Λ.w
    have KT : KeyT P kt ks kag := ⟨hK⟩
    split at he
    · rename_i q
      split at he
      · rename_i kag' es sx hes
        have hxv : RelV Λ (a.eval x) (.mp q) := rd_sound hr hx h1 (fun q hq => hp q (by split at he <;> (simp at he; obtain ⟨_, rfl⟩ := he; simp [hq]))) hg
        have hkv : RelV Λ (a.eval k) vk := rd_sound hr hk h2 (fun q hq => hp q (by split at he <;> (simp at he; obtain ⟨_, rfl⟩ := he; simp [hq]))) hg
        have hkag : kag' = kag := by
          have := hp (kag' == kag) (by split at he <;> (simp at he; obtain ⟨_, rfl⟩ := he; simp))
          simpa using this
        have hkeys : keysOk ks es = true := hp (keysOk ks es) (by split at he <;> (simp at he; obtain ⟨_, rfl⟩ := he; simp))
        subst hkag
        obtain ⟨ek, hko⟩ := key_val hkv hkc
        generalize hex : a.eval x = u at hxv
        cases hxv with
        | @mp b _ hql hb =>
          obtain ⟨ents, clock, hh, hM⟩ := hr.s.objMap hes hb
          have hf := find_run KT hko hM.size (hM.keyed hkeys) hkeys Λ.w
          have hrun1 : ∀ (i : Nat) (y : Value), (Instr.findKey kt (kv kag' cs) ents.toList).run P Λ.w = .ok (some (i, y)) Λ.w → (execOp a.eval o).run P Λ.w = .ok (.value (if ok then .tuple #[y, .bool true] else y)) Λ.w := by
            intro i y hf'
            simp only [execOp, hop, hex, ek]
            simp only [Instr.lookup, Sem.run_bind, run_underlying hu, MapKept.run_getObj_map hh, Result.andThen_ok, Sem.run_pure, check_run KT hko, hf']
          have hrun0 : (Instr.findKey kt (kv kag' cs) ents.toList).run P Λ.w = .ok none Λ.w → (execOp a.eval o).run P Λ.w = .ok (.value (if ok then .tuple #[z, .bool false] else z)) Λ.w := by
            intro hf'
            simp only [execOp, hop, hex, ek]
            simp only [Instr.lookup, Sem.run_bind, run_underlying hu, MapKept.run_getObj_map hh, Result.andThen_ok, Sem.run_pure, check_run KT hko, hf', hz1]
          split at he
          · rename_i v' hg'
            simp at he
            obtain ⟨rfl, _⟩ := he
            cases hm : mfind cs es with
            | none => rw [(mfind_none hm).1] at hg'; cases hg'
            | some i =>
              obtain ⟨e, h3, h4, h5, _, _⟩ := mfind_at hm
              rw [hg'] at h5; simp at h5; subst h5
              obtain ⟨en, h6, h7⟩ := hM.val h3
              exact ⟨_, hrun1 i en.val (by rw [hf, hm]; simp [h6]), okV_rel h7 ok true⟩
          · rename_i hg'
            simp at he
            obtain ⟨rfl, _⟩ := he
            cases hm : mfind cs es with
            | some i => obtain ⟨e, _, _, h5, _, _⟩ := mfind_at hm; rw [hg'] at h5; cases h5
            | none =>
              exact ⟨_, hrun0 (by rw [hf, hm]), okV_rel (hz2 Λ) ok false⟩
      · cases he
    · simp at he
      obtain ⟨rfl, rfl⟩ := he
      have hxv : RelV Λ (a.eval x) (.t .nilm) := rd_sound hr hx h1 (fun q hq => hp q (by simp [hq])) hg
      have hkv : RelV Λ (a.eval k) vk := rd_sound hr hk h2 (fun q hq => hp q (by simp [hq])) hg
      obtain ⟨ek, hko⟩ := key_val hkv hkc
      generalize hex : a.eval x = u at hxv
      have hu' : u = .map none := by cases hxv with | t h => cases h; rfl
      subst hu'
      have hf := find_run (ents := #[]) (es := []) KT hko rfl (by simp) (by simp [keysOk]) Λ.w
      refine ⟨_, ?_, okV_rel (hz2 Λ) ok false⟩
      simp only [execOp, hop, hex, ek]
      simp only [Instr.lookup, Sem.run_bind, run_underlying hu, Result.andThen_ok, Sem.run_pure, check_run KT hko]
      simp only [mfind] at hf
      simp only [hf, Sem.run_bind, Result.andThen_ok, hz1, Sem.run_pure]
    · cases he

theorem e_eqn2 {t e ty : TypeId} {x y : Operand} {neg : Bool} {x' : Ar} {v : V} {ps : List Bool} (hop : o.op = .binOp (if neg then .neq else .eql) t x y ty) (hy : y = .const (.slice none 0 0)) (hu : P.underlying t = some (.slice e)) (hx : opA x = some x')
    (he : evalN gc st (.eqn neg x') = some (v, ps)) (hp : ∀ q ∈ ps, q) : ESound P o gc st v := by
  intro C Λ a hC hg hr
  have hc : ∀ v, a.eval (.const v) = v := fun _ => rfl
  have run : ∀ (ad : Option Addr) (n c : Nat), a.eval x = .slice ad n c → (execOp a.eval o).run P Λ.w = .ok (.value (.bool (if neg then !ad.isNone else ad.isNone))) Λ.w := by
    intro ad n c hex
    have hq : (Op.equal t (.slice ad n c) (.slice none 0 0)).run P Λ.w = .ok ad.isNone Λ.w := run_equal_step _ _ Λ.w _ (fun n => by cases ad <;> simp [Op.equalIn, run_underlying hu])
    subst hy
    cases neg <;> simp [execOp, hop, hex, hc, eqGuard, binOp, hq]
  simp only [evalN] at he
  generalize h1 : rd gc st x' = rx at he
  obtain ⟨vx, p1⟩ := rx
  have lst : ∀ (xs : List (List T)), RepT Λ.lab Λ.w (a.eval x) (.lst xs) → ∃ ad n c, a.eval x = .slice ad n c ∧ (ad.isNone = true → ∀ c ∈ xs, c = []) := by
    intro xs h
    generalize a.eval x = u at h
    cases h with
    | lst ad cap sz xs b o vf h1 h2 h3 h4 h5 h6 =>
      refine ⟨ad, xs.length, cap, rfl, fun hn c hc => ?_⟩
      cases ad with
      | some _ => simp at hn
      | none =>
        cases c with
        | nil => rfl
        | cons z s =>
          obtain ⟨i, hi⟩ := List.mem_iff_getElem?.1 hc
          exact absurd (h3 i 0 (z :: s) z hi rfl) (by simp)
  have fin : ∀ (xs : List (List T)), RepT Λ.lab Λ.w (a.eval x) (.lst xs) → ∃ v', (execOp a.eval o).run P Λ.w = .ok (.value v') Λ.w ∧ RelV Λ v' (if neg then .ub True (∀ c ∈ xs, c = []) else .ub (∀ c ∈ xs, c = []) True) := by
    intro xs h
    obtain ⟨ad, n, c, e1, e2⟩ := lst xs h
    refine ⟨_, run ad n c e1, ?_⟩
    cases neg with
    | false => simp only [Bool.false_eq_true, if_false]; exact .ub e2 (fun _ => trivial)
    | true => simp only [if_true]; exact .ub (fun _ => trivial) (fun h => e2 (by simpa using h))
  split at he
  · rename_i p h
    simp only [Prod.mk.injEq] at h
    obtain ⟨rfl, rfl⟩ := h
    simp at he; obtain ⟨rfl, rfl⟩ := he
    have hxv := rd_sound hr hx h1 hp hg
    generalize hex : a.eval x = u at hxv
    cases hxv with
    | nils => exact ⟨_, run _ 0 0 hex, .ub (fun _ => trivial) (fun _ => trivial)⟩
  · rename_i p h
    simp only [Prod.mk.injEq] at h
    obtain ⟨rfl, rfl⟩ := h
    simp at he; obtain ⟨rfl, rfl⟩ := he
    have hxv := rd_sound hr hx h1 hp hg
    generalize hex : a.eval x = u at hxv
    cases hxv with
    | slc _ _ _ => exact ⟨_, run _ _ _ hex, by cases neg <;> exact .t (.bool _)⟩
  · rename_i xs p h
    simp only [Prod.mk.injEq] at h
    obtain ⟨rfl, rfl⟩ := h
    simp at he; obtain ⟨rfl, rfl⟩ := he
    have hxv := rd_sound hr hx h1 hp hg
    have : RepT Λ.lab Λ.w (a.eval x) (.lst xs) := by
      generalize a.eval x = u at hxv
      cases hxv with
      | own h _ _ _ _ => exact h
    exact fin xs this
  · rename_i xs p h
    simp only [Prod.mk.injEq] at h
    obtain ⟨rfl, rfl⟩ := h
    simp at he; obtain ⟨rfl, rfl⟩ := he
    exact fin xs (rd_sound hr hx h1 hp hg).repT
  · cases he

theorem u8s_at : ∀ {xs : List (List T)} {ns : List Int}, u8s xs = some ns → xs.length = ns.length ∧ ∀ (i : Nat) (n : Int), ns[i]? = some n → xs[i]? = some [.int .u8 n]
  | [], ns, h => by simp [u8s] at h; subst h; simp
  | c :: r, ns, h => by
    unfold u8s at h
    split at h
    · rename_i h2; cases h2
    · rename_i n r2 h2
      simp only [List.cons.injEq] at h2
      obtain ⟨rfl, rfl⟩ := h2
      simp only [Option.map_eq_some_iff] at h
      obtain ⟨ms, hm, rfl⟩ := h
      obtain ⟨k1, k2⟩ := u8s_at hm
      refine ⟨by simp [k1], fun i x hx => ?_⟩
      cases i with
      | zero => simp at hx; subst hx; rfl
      | succ i => exact k2 i x (by simpa using hx)
    · cases h

theorem e_bstr {src dst e : TypeId} {x : Operand} {x' : Ar} {v : V} {ps : List Bool} (hop : o.op = .convert src dst x) (hs : P.underlying src = some (.slice e)) (hd : P.underlying dst = some .string) (hu : P.underlying e = some (.int .u8)) (hx : opA x = some x')
    (he : evalN gc st (.bstr x') = some (v, ps)) (hp : ∀ q ∈ ps, q) : ESound P o gc st v := by
  intro C Λ a hC hg hr
  simp only [evalN] at he
  generalize h1 : rd gc st x' = rx at he
  obtain ⟨vx, p1⟩ := rx
  have fin : ∀ (xs : List (List T)), RepT Λ.lab Λ.w (a.eval x) (.lst xs) → u8S xs = some v → ∃ v', (execOp a.eval o).run P Λ.w = .ok (.value v') Λ.w ∧ RelV Λ v' v := by
    intro xs h hu8
    unfold u8S at hu8
    split at hu8
    · rename_i n r hns
      simp only [Option.some.injEq] at hu8
      subst hu8
      obtain ⟨k1, k2⟩ := u8s_at hns
      generalize hex : a.eval x = u at h
      cases h with
      | lst ad cap sz xs b o2 vf hcap hsz ha hrd hc hh =>
        have h0 := k2 0 n rfl
        obtain rfl := ha 0 0 _ _ h0 rfl
        have hz := hsz 0 _ h0
        simp only [List.length_singleton] at hz
        subst hz
        have hcell : ∀ i, i < xs.length → Λ.w.cell? ⟨b, o2 + i, none⟩ = some (.int .u8 ((n :: r).getD i 0)) := by
          intro i hi
          have hi2 : i < (n :: r).length := by rw [← k1]; exact hi
          have e1 := k2 i (n :: r)[i] (List.getElem?_eq_getElem hi2)
          have e2 := hc i 0 _ _ e1 rfl
          have e3 := hh i 0 _ _ e1 rfl
          have e4 : vf i 0 = .int .u8 (n :: r)[i] := by generalize vf i 0 = z at e3; cases e3; rfl
          rw [e4] at e2
          simp only [Nat.mul_one, Nat.add_zero] at e2
          rw [e2, List.getD_eq_getElem?_getD, List.getElem?_eq_getElem hi2]
          rfl
        refine ⟨.string (strOfNums (n :: r)), ?_, ?_⟩
        · simp only [execOp, hop, hex, Sem.run_bind]
          rw [run_convert_bytes_arg Λ.w src e hs hu b o2 xs.length cap (n :: r) k1.symm hcell dst hd]
          rfl
        · exact .t (.str _)
    · cases hu8
  split at he
  · rename_i xs p h
    simp only [Prod.mk.injEq] at h
    obtain ⟨rfl, rfl⟩ := h
    simp only [Option.map_eq_some_iff, Prod.mk.injEq] at he
    obtain ⟨v', h2, rfl, rfl⟩ := he
    exact fin xs (rd_sound hr hx h1 hp hg).repT h2
  · rename_i xs p h
    simp only [Prod.mk.injEq] at h
    obtain ⟨rfl, rfl⟩ := h
    simp only [Option.map_eq_some_iff, Prod.mk.injEq] at he
    obtain ⟨v', h2, rfl, rfl⟩ := he
    have hxv := rd_sound hr hx h1 hp hg
    have : RepT Λ.lab Λ.w (a.eval x) (.lst xs) := by
      generalize a.eval x = u at hxv
      cases hxv with
      | own h _ _ _ _ => exact h
    exact fin xs this h2
  · cases he

theorem e_eqst {t ty : TypeId} {x y : Operand} {neg : Bool} {ks : List KSh} {x' y' : Ar} {v : V} {ps : List Bool} (hop : o.op = .binOp (if neg then .neq else .eql) t x y ty) (hK : keySh P t = some (ks, true)) (hx : opA x = some x') (hy : opA y = some y')
    (he : evalN gc st (.eqst neg ks x' y') = some (v, ps)) (hp : ∀ q ∈ ps, q) : ESound P o gc st v := by
  intro C Λ a hC hg hr
  simp only [evalN] at he
  generalize h1 : rd gc st x' = rx at he
  generalize h2 : rd gc st y' = ry at he
  obtain ⟨vx, p1⟩ := rx
  obtain ⟨vy, p2⟩ := ry
  simp only at he
  split at he
  · rename_i cs ds hc hd
    simp at he; obtain ⟨rfl, rfl⟩ := he
    have hxv : RelV Λ (a.eval x) vx := rd_sound hr hx h1 (fun q hq => hp q (by simp [hq])) hg
    have hyv : RelV Λ (a.eval y) vy := rd_sound hr hy h2 (fun q hq => hp q (by simp [hq])) hg
    obtain ⟨e1, k1⟩ := key_val hxv hc
    obtain ⟨e2, k2⟩ := key_val hyv hd
    have KT : KeyT P t ks true := ⟨hK⟩
    have hq := equal_struct KT k1 k2 9998 Λ.w
    have hgt : P.eqGuardType P.depth t = false := by
      have h := hK
      unfold keySh at h
      split at h <;> try (simp at h; done)
      split at h
      · rename_i h'; exact h'.2
      · cases h
    simp only [kv, if_true] at e1 e2 hq
    refine ⟨.bool (if neg then !(keyEq cs ds) else keyEq cs ds), ?_, .t (.bool _)⟩
    cases neg with
    | false =>
      have hb := run_eql_struct (P := P) Λ.w t (cs.map Tv).toArray (ds.map Tv).toArray
      rw [hq] at hb
      simp only [Bool.false_eq_true, if_false] at hop ⊢
      simp only [execOp, hop, e1, e2]
      have hgu := run_eqGuard_agg (P := P) Λ.w .eql t x y (cs.map Tv).toArray (ds.map Tv).toArray hgt
      simp [hgu, hb]
    | true =>
      have hb := run_neq_struct (P := P) Λ.w t (cs.map Tv).toArray (ds.map Tv).toArray
      rw [hq] at hb
      simp only [if_true] at hop ⊢
      simp only [execOp, hop, e1, e2]
      have hgu := run_eqGuard_agg (P := P) Λ.w .neq t x y (cs.map Tv).toArray (ds.map Tv).toArray hgt
      simp [hgu, hb]
  · cases he

/-- the world behind a map's change -/
def setMap (w : World) (b : Nat) (ents : Array MapEntry) (clock : Nat) : World := { w with heap := w.heap.setIfInBounds b (.map ents clock) }
theorem setMap_wrote {w : World} {b : Nat} {ents : Array MapEntry} {clock : Nat} : Wrote w (setMap w b ents clock) b :=
  ⟨rfl, rfl, rfl, by simp [setMap], fun c hc => by simp [setMap, Ne.symm hc]⟩
theorem setMap_at {w : World} {b : Nat} {ents : Array MapEntry} {clock : Nat} {ob : Obj} (h : w.heap[b]? = some ob) : (setMap w b ents clock).heap[b]? = some (.map ents clock) := (MapKept.heap_set h).1

theorem map_write {Λ : L} {s : S} {q b : Nat} {kag : Bool} {es' : List (List T × V)} {sx' : Option (Nat × List Nat)} {ents ents' : Array MapEntry} {clock clock' : Nat} (h : RelS Λ s) (hq : q < Λ.nxt) (hb : Λ.lab b = .obj q) (hh : Λ.w.heap[b]? = some (.map ents clock))
    (hM : RepM Λ kag ents' clock' es' sx') {v : V} {rd : Bool} :
    Kp Λ { Λ with w := setMap Λ.w b ents' clock' } ∧ RelS { Λ with w := setMap Λ.w b ents' clock' } (s.app { v := v, ob := [(q, .map kag es' sx')], rd := rd }) ∧ ∀ k, Free Λ k → Free { Λ with w := setMap Λ.w b ents' clock' } k := by
  have hkp : Kp Λ { Λ with w := setMap Λ.w b ents' clock' } := Kp.wrote setMap_wrote hb
  have hF : FKeep Λ { Λ with w := setMap Λ.w b ents' clock' } := FKeep.wrote setMap_wrote hb
  refine ⟨hkp, ?_, fun k h => h.keep hF h.obj h.arr h.fro⟩
  refine h.step hkp rfl (fun j ob hj => ?_) h.inj (fun c hc => h.new c (by simpa [setMap] using hc)) h.bnd h.frz hF
  simp only [S.app, asets] at hj
  rw [aget_aset] at hj
  split at hj
  · rename_i e; subst e
    simp at hj; subst hj
    exact .inr ⟨hq, b, ents', clock', hb, setMap_at hh, hM.keep (fun _ _ h => h.mono hkp.fr) (fun _ _ _ _ h => h.mono hkp)⟩
  · rename_i hne
    refine .inl ⟨hj, fun c hc => ?_, rfl⟩
    have : c ≠ b := by rintro rfl; rw [hb] at hc; simp at hc; exact hne hc
    exact setMap_wrote.old c this

theorem RepM.set {Λ : L} {kag : Bool} {ents : Array MapEntry} {clock : Nat} {es : List (List T × V)} {sx : Option (Nat × List Nat)} (h : RepM Λ kag ents clock es sx) {i : Nat} {k : Value} {cs : List T} {u : Value} {v : V} (hk : RepA Λ.lab Λ.w kag k cs) (hv : RelV Λ u v) :
    RepM Λ kag (ents.modify i fun e => { e with key := k, val := u }) clock (es.set i (cs, v)) sx := by
  have hget : ∀ (j : Nat) (e : MapEntry), (ents.modify i fun e => { e with key := k, val := u })[j]? = some e → ∃ e0, ents[j]? = some e0 ∧ e.born = e0.born ∧ (i ≠ j → e = e0) ∧ (i = j → e.key = k ∧ e.val = u) := by
    intro j e he
    rw [Array.getElem?_modify] at he
    split at he
    · rename_i hij
      cases h0 : ents[j]? with
      | none => rw [h0] at he; simp at he
      | some e0 => rw [h0] at he; simp at he; subst he; exact ⟨e0, rfl, rfl, fun h => absurd hij h, fun _ => ⟨rfl, rfl⟩⟩
    · rename_i hij; exact ⟨e, he, rfl, fun _ => rfl, fun h => absurd h hij⟩
  refine ⟨by simp [h.size], fun j e x a b => ?_, fun j e a => ?_, fun j j' e f a b hb => ?_, fun c bs hs => ?_⟩
  · obtain ⟨e0, h0, _, h2, h3⟩ := hget j e a
    rw [List.getElem?_set] at b
    split at b
    · rename_i hij
      split at b
      · simp at b; subst b
        obtain ⟨h4, h5⟩ := h3 hij
        exact ⟨by rw [h4]; exact hk, by rw [h5]; exact hv⟩
      · cases b
    · rename_i hij
      rw [h2 hij]; exact h.at_ j e0 x h0 b
  · obtain ⟨e0, h0, h1, _, _⟩ := hget j e a
    rw [h1]; exact h.born j e0 h0
  · obtain ⟨e0, h0, h1, _, _⟩ := hget j e a
    obtain ⟨f0, g0, g1, _, _⟩ := hget j' f b
    exact h.apart j j' e0 f0 h0 g0 (by rw [← h1, ← g1]; exact hb)
  · obtain ⟨e1, e2⟩ := h.known c bs hs
    refine ⟨e1, ?_⟩
    rw [← e2]
    apply List.ext_getElem?
    intro j
    simp only [List.getElem?_map]
    have : (ents.modify i fun e => { e with key := k, val := u }).toList[j]? = (ents.modify i fun e => { e with key := k, val := u })[j]? := Array.getElem?_toList
    rw [this, Array.getElem?_modify]
    have h2 : ents.toList[j]? = ents[j]? := by simp
    rw [h2]
    split
    · cases ents[j]? <;> rfl
    · rfl

/-- a new entry -/
theorem RepM.push {Λ : L} {kag : Bool} {ents : Array MapEntry} {clock : Nat} {es : List (List T × V)} {sx : Option (Nat × List Nat)} (h : RepM Λ kag ents clock es sx) {k : Value} {cs : List T} {u : Value} {v : V} (hk : RepA Λ.lab Λ.w kag k cs) (hv : RelV Λ u v) {sx' : Option (Nat × List Nat)}
    (hs : ∀ c bs, sx' = some (c, bs) → ∃ c0 bs0, sx = some (c0, bs0) ∧ c = c0 + 1 ∧ bs = bs0 ++ [c0]) :
    RepM Λ kag (ents.push { key := k, val := u, born := clock }) (clock + 1) (es ++ [(cs, v)]) sx' := by
  have hget : ∀ (j : Nat) (e : MapEntry), (ents.push { key := k, val := u, born := clock })[j]? = some e → (ents[j]? = some e ∧ j < ents.size) ∨ (j = ents.size ∧ e = { key := k, val := u, born := clock }) := by
    intro j e he
    rw [Array.getElem?_push] at he
    split at he
    · rename_i hj; simp at he; exact .inr ⟨hj, he.symm⟩
    · rename_i hj; exact .inl ⟨he, (Array.getElem?_eq_some_iff.1 he).1⟩
  refine ⟨by simp [h.size], fun j e x a b => ?_, fun j e a => ?_, fun j j' e f a b hb => ?_, fun c bs hc => ?_⟩
  · rcases hget j e a with ⟨h1, h2⟩ | ⟨h1, rfl⟩
    · rw [List.getElem?_append_left (by rw [← h.size]; exact h2)] at b
      exact h.at_ j e x h1 b
    · subst h1
      rw [List.getElem?_append_right (by rw [h.size]; exact Nat.le_refl _), h.size] at b
      simp at b; subst b
      exact ⟨hk, hv⟩
  · rcases hget j e a with ⟨h1, h2⟩ | ⟨h1, rfl⟩
    · have := h.born j e h1; omega
    · simp
  · rcases hget j e a with ⟨h1, h2⟩ | ⟨h1, rfl⟩
    · rcases hget j' f b with ⟨g1, g2⟩ | ⟨g1, rfl⟩
      · exact h.apart j j' e f h1 g1 hb
      · have := h.born j e h1; simp at hb; omega
    · rcases hget j' f b with ⟨g1, g2⟩ | ⟨g1, rfl⟩
      · have := h.born j' f g1; simp at hb; omega
      · omega
  · obtain ⟨c0, bs0, h0, rfl, rfl⟩ := hs c bs hc
    obtain ⟨e1, e2⟩ := h.known c0 bs0 h0
    exact ⟨by rw [e1], by rw [← e2, ← e1]; simp⟩

theorem RepM.forget {Λ : L} {kag : Bool} {ents : Array MapEntry} {clock : Nat} {es : List (List T × V)} {sx : Option (Nat × List Nat)} (h : RepM Λ kag ents clock es sx) : RepM Λ kag ents clock es none :=
  ⟨h.size, h.at_, h.born, h.apart, fun _ _ h => by cases h⟩

theorem map_eraseIdx {α β : Type} (f : α → β) : ∀ (l : List α) (i : Nat), (l.eraseIdx i).map f = (l.map f).eraseIdx i
  | [], i => by simp
  | x :: r, 0 => by simp
  | x :: r, i + 1 => by simp [map_eraseIdx f r i]
theorem RepM.erase {Λ : L} {kag : Bool} {ents : Array MapEntry} {clock : Nat} {es : List (List T × V)} {sx : Option (Nat × List Nat)} (h : RepM Λ kag ents clock es sx) (i : Nat) : RepM Λ kag (ents.eraseIdxIfInBounds i) clock (es.eraseIdx i) (sdrop (some i) sx) := by
  have hl : (ents.eraseIdxIfInBounds i).toList = ents.toList.eraseIdx i := by
    unfold Array.eraseIdxIfInBounds
    split
    · simp
    · rename_i hi
      rw [List.eraseIdx_of_length_le (by simpa using hi)]
  have hat : ∀ j : Nat, (ents.eraseIdxIfInBounds i)[j]? = (ents.toList.eraseIdx i)[j]? := fun j => by rw [← hl]; exact Array.getElem?_toList.symm
  have hidx : ∀ (α : Type) (l : List α) (j : Nat), (l.eraseIdx i)[j]? = l[if j < i then j else j + 1]? := fun α l j => by rw [List.getElem?_eraseIdx]; split <;> rfl
  have hent : ∀ (j : Nat) (e : MapEntry), (ents.eraseIdxIfInBounds i)[j]? = some e → ents[if j < i then j else j + 1]? = some e := by
    intro j e he
    rw [hat, hidx] at he
    simpa using he
  refine ⟨?_, fun j e x a b => ?_, fun j e a => h.born _ e (hent j e a), fun j j' e f a b hb => ?_, fun c bs hc => by
    cases sx with
    | none => cases hc
    | some y =>
      obtain ⟨c', bs'⟩ := y
      obtain ⟨h1, h2⟩ := h.known c' bs' rfl
      simp only [sdrop, Option.some.injEq, Prod.mk.injEq] at hc
      obtain ⟨rfl, rfl⟩ := hc
      exact ⟨h1, by rw [hl, ← h2, map_eraseIdx]⟩⟩
  · have h1 : (ents.eraseIdxIfInBounds i).size = (ents.toList.eraseIdx i).length := by rw [← hl]; exact Array.length_toList.symm
    rw [h1, List.length_eraseIdx, List.length_eraseIdx]
    have := h.size
    simp [this]
  · rw [hidx] at b
    exact h.at_ _ e x (hent j e a) b
  · have := h.apart _ _ e f (hent j e a) (hent j' f b) hb
    split at this <;> split at this <;> omega

theorem o_mupd {t kt et : TypeId} {x k v : Operand} {ks : List KSh} {kag : Bool} {x' k' v' : Ar} {q : Nat} {cs : List T} {es : List (List T × V)} {sx : Option (Nat × List Nat)} (hop : o.op = .mapUpdate t x k v) (hu : P.underlying t = some (.map kt et)) (hK : keySh P kt = some (ks, kag))
    (hx : opA x = some x') (hk : opA k = some k') (hv : opA v = some v') (hxv : x'.u st = .mp q) (hkc : keyC ks kag (k'.u st) = some cs) (hes : aget st.s.sto q = some (.map kag es sx)) (hok : keysOk ks es = true) :
    OSound P o base st { v := .top, ob := [(q, .map kag (mset cs (v'.u st) es) none)], rd := true } := by
  intro C Λ a next Q hC hr _ _ hnext
  have hx1 := hr.opu hx
  have hv1 := hr.opu hv
  obtain ⟨ek, hko⟩ := key_val (hr.opu hk) hkc
  have KT : KeyT P kt ks kag := ⟨hK⟩
  rw [hxv] at hx1
  generalize hex : a.eval x = u at hx1
  cases hx1 with
  | @mp b _ hql hb =>
    obtain ⟨ents, clock, hh, hM⟩ := hr.s.objMap hes hb
    have hf := find_run KT hko hM.size (hM.keyed hok) hok Λ.w
    have hka : RepA Λ.lab Λ.w kag (kv kag cs) cs := ek ▸ (key_rep (hr.opu hk) hkc).1
    cases hm : mfind cs es with
    | some i =>
      obtain ⟨e, h1, h2, h3, h4, _⟩ := mfind_at hm
      obtain ⟨en, h5, h6⟩ := hM.val h1
      have hek : en.key = kv kag cs := by
        have := hM.keyed hok i en e h5 h1
        have hko' : keyOk ks e.1 = true := by unfold keysOk at hok; rw [List.all_eq_true] at hok; exact hok e (List.mem_of_getElem? h1)
        rw [this, keyEq_kv hko hko' h2]
      have hrun : (execOp a.eval o).run P Λ.w = .ok .skip (setMap Λ.w b (ents.modify i fun e => { e with key := kv kag cs, val := a.eval v }) clock) := by
        rw [hm] at hf
        simp only [h5, Option.map] at hf
        simp only [execOp, hop, hex, ek]
        simp only [Instr.mapUpdate, Sem.run_bind, run_underlying hu, MapKept.run_getObj_map hh, Result.andThen_ok, check_run KT hko, hf, h5, Option.map, Option.getD, hek, stays_run KT hko, MapKept.run_setObj_map _ hh]
        rfl
      unfold Oper.wp
      rw [hrun]
      simp only [h4] at hnext
      obtain ⟨g1, g2, g3⟩ := map_write (v := .top) (rd := true) hr.s hql hb hh ((hM.set (i := i) hka hv1).forget)
      exact hnext undef _ g1 rfl g2 .top (fun k h _ _ => g3 k h)
    | none =>
      obtain ⟨_, h4, _⟩ := mfind_none hm
      have hrun : (execOp a.eval o).run P Λ.w = .ok .skip (setMap Λ.w b (ents.push { key := kv kag cs, val := a.eval v, born := clock }) (clock + 1)) := by
        rw [hm] at hf
        simp only [execOp, hop, hex, ek]
        simp only [Instr.mapUpdate, Sem.run_bind, run_underlying hu, MapKept.run_getObj_map hh, Result.andThen_ok, check_run KT hko, hf, MapKept.run_setObj_map _ hh]
        rfl
      unfold Oper.wp
      rw [hrun]
      simp only [h4] at hnext
      obtain ⟨g1, g2, g3⟩ := map_write (v := .top) (rd := true) hr.s hql hb hh (hM.push (sx' := none) hka hv1 (fun _ _ h => by cases h))
      exact hnext undef _ g1 rfl g2 .top (fun k h _ _ => g3 k h)

theorem o_mdel {ty kt et : TypeId} {x k : Operand} {args : Array Operand} {ats : Array TypeId} {ks : List KSh} {kag : Bool} {x' k' : Ar} {q : Nat} {cs : List T} {es : List (List T × V)} {sx : Option (Nat × List Nat)} (hop : o.op = .call { callee := .builtin .delete, args := args, argTypes := ats }) (ha : args.toList = [x, k]) (hat : ats[0]? = some ty)
    (hu : P.underlying ty = some (.map kt et)) (hK : keySh P kt = some (ks, kag)) (hx : opA x = some x') (hk : opA k = some k') (hxv : x'.u st = .mp q) (hkc : keyC ks kag (k'.u st) = some cs) (hes : aget st.s.sto q = some (.map kag es sx)) (hok : keysOk ks es = true) :
    OSound P o base st { v := .top, ob := [(q, .map kag (mdrop cs es) (sdrop (mfind cs es) sx))], rd := true } := by
  intro C Λ a next Q hC hr _ _ hnext
  have hx1 := hr.opu hx
  obtain ⟨ek, hko⟩ := key_val (hr.opu hk) hkc
  have KT : KeyT P kt ks kag := ⟨hK⟩
  have haa : args = #[x, k] := by apply Array.ext'; simpa using ha
  subst haa
  rw [hxv] at hx1
  generalize hex : a.eval x = u at hx1
  cases hx1 with
  | @mp b _ hql hb =>
    obtain ⟨ents, clock, hh, hM⟩ := hr.s.objMap hes hb
    have hf := find_run KT hko hM.size (hM.keyed hok) hok Λ.w
    cases hm : mfind cs es with
    | some i =>
      obtain ⟨e, h1, _, _, _, h4⟩ := mfind_at hm
      obtain ⟨en, h5, h6⟩ := hM.val h1
      have hrun : (execOp a.eval o).run P Λ.w = .ok (.value (.tuple #[])) (setMap Λ.w b (ents.eraseIdxIfInBounds i) clock) := by
        rw [hm] at hf
        simp only [h5, Option.map] at hf
        simp only [execOp, hop, resolve, invoke, builtin, List.map_toArray, List.map_cons, List.map_nil, hex, ek]
        simp [Builtin.delete_, hat, run_underlying hu, MapKept.run_getObj_map hh, check_run KT hko, hf, MapKept.run_setObj_map _ hh]
        rfl
      unfold Oper.wp
      rw [hrun]
      simp only [h4, hm] at hnext
      obtain ⟨g1, g2, g3⟩ := map_write (v := .top) (rd := true) hr.s hql hb hh (hM.erase i)
      exact hnext _ _ g1 rfl g2 .top (fun k h _ _ => g3 k h)
    | none =>
      obtain ⟨_, _, h4⟩ := mfind_none hm
      have hrun : (execOp a.eval o).run P Λ.w = .ok (.value (.tuple #[])) (setMap Λ.w b ents clock) := by
        rw [hm] at hf
        simp only [execOp, hop, resolve, invoke, builtin, List.map_toArray, List.map_cons, List.map_nil, hex, ek]
        simp [Builtin.delete_, hat, run_underlying hu, MapKept.run_getObj_map hh, check_run KT hko, hf, MapKept.run_setObj_map _ hh]
        rfl
      unfold Oper.wp
      rw [hrun]
      simp only [h4, hm, show sdrop none sx = sx from by cases sx <;> rfl] at hnext
      obtain ⟨g1, g2, g3⟩ := map_write (v := .top) (rd := true) hr.s hql hb hh hM
      exact hnext _ _ g1 rfl g2 .top (fun k h _ _ => g3 k h)

theorem RepM.empty {Λ : L} {kag : Bool} {clock : Nat} {sx : Option (Nat × List Nat)} (h : ∀ c bs, sx = some (c, bs) → clock = c ∧ bs = []) : RepM Λ kag #[] clock [] sx :=
  ⟨rfl, by simp, by simp, by simp, fun c bs hs => by obtain ⟨h1, h2⟩ := h c bs hs; exact ⟨h1, h2.symm⟩⟩

theorem o_mclr {ty kt et : TypeId} {x : Operand} {args : Array Operand} {ats : Array TypeId} {kag : Bool} {x' : Ar} {q : Nat} {es : List (List T × V)} {sx : Option (Nat × List Nat)} (hop : o.op = .call { callee := .builtin .clear, args := args, argTypes := ats }) (ha : args.toList = [x]) (hat : ats[0]? = some ty)
    (hu : P.underlying ty = some (.map kt et)) (hx : opA x = some x') (hxv : x'.u st = .mp q) (hes : aget st.s.sto q = some (.map kag es sx)) :
    OSound P o base st { v := .top, ob := [(q, .map kag [] none)], rd := true } := by
  intro C Λ a next Q hC hr _ _ hnext
  have hx1 := hr.opu hx
  have haa : args = #[x] := by apply Array.ext'; simpa using ha
  subst haa
  rw [hxv] at hx1
  generalize hex : a.eval x = u at hx1
  cases hx1 with
  | @mp b _ hql hb =>
    obtain ⟨ents, clock, hh, hM⟩ := hr.s.objMap hes hb
    have hrun : (execOp a.eval o).run P Λ.w = .ok (.value (.tuple #[])) (setMap Λ.w b #[] clock) := by
      simp only [execOp, hop, resolve, invoke, builtin, List.map_toArray, List.map_cons, List.map_nil, hex]
      simp [Builtin.clear_, hat, run_underlying hu, MapKept.run_getObj_map hh, MapKept.run_setObj_map _ hh]
      rfl
    unfold Oper.wp
    rw [hrun]
    obtain ⟨g1, g2, g3⟩ := map_write (v := .top) (rd := true) hr.s hql hb hh (RepM.empty (kag := kag) (clock := clock) (sx := none) (fun _ _ h => by cases h))
    exact hnext _ _ g1 rfl g2 .top (fun k h _ _ => g3 k h)

theorem o_mkmap {t : TypeId} {kag : Bool} (hop : o.op = .makeMap t none) : OSound P o base st { v := .mp base, ob := [(base, .map kag [] (some (0, [])))], n := 1 } := by
  intro C Λ a next Q hC hr hle hfree hnext
  have hrun : (execOp a.eval o).run P Λ.w = .ok (.value (.map (some Λ.w.heap.size))) (Λ.w.alloc (.map #[] 0)) := by
    simp only [execOp, hop]
    simp [Instr.makeMap]
  unfold Oper.wp
  rw [hrun]
  obtain ⟨hb1, hb2, hb3⟩ := hfree base (Nat.le_refl _) (by simp)
  have g := Grew.alloc Λ.w (.map #[] 0)
  have hkp := Kp.new g hr.s.new (.obj base)
  obtain ⟨k1, k2, k3⟩ := new_obj hr.s g hb1 hb2 rfl (ao := .map kag [] (some (0, []))) ⟨Λ.w.heap.size, _, _, by simp [relab_same], g.top, RepM.empty (fun c bs h => by simp at h; exact ⟨h.1, h.2⟩)⟩
  exact hnext _ _ k1 rfl k2 (.mp hb1 (by simp [relab_same])) (fun k hk _ hlt => k3 k hk (by simp at hlt; omega))

theorem o_lenm {ty kt et : TypeId} {x : Operand} {args : Array Operand} {ats : Array TypeId} {x' : Ar} {n : Nat} (hop : o.op = .call { callee := .builtin .len, args := args, argTypes := ats }) (ha : args[0]? = some x) (hat : ats[0]? = some ty)
    (hu : P.underlying ty = some (.map kt et)) (hx : opA x = some x') (hxv : (x'.u st = .t .nilm ∧ n = 0) ∨ ∃ q kag es sx, x'.u st = .mp q ∧ aget st.s.sto q = some (.map kag es sx) ∧ n = es.length) :
    OSound P o base st { v := .t (.int .i64 n), rd := true } := by
  intro C Λ a next Q hC hr _ _ hnext
  have hx1 := hr.opu hx
  have hrun : (execOp a.eval o).run P Λ.w = .ok (.value (.int .i64 n)) Λ.w := by
    rcases hxv with ⟨h1, rfl⟩ | ⟨q, kag, es, sx, h1, h2, rfl⟩
    · rw [h1] at hx1
      have : a.eval x = .map none := by generalize a.eval x = u at hx1; cases hx1 with | t h => cases h; rfl
      have hax : (args.map a.eval)[0]? = some (.map none) := by simp [ha, this]
      simp only [execOp, hop, resolve, Sem.run_bind, Sem.run_pure, Result.andThen_ok, invoke, builtin]
      simp [Builtin.len_, hat, hax, run_underlying hu, goInt]
    · rw [h1] at hx1
      generalize hex : a.eval x = u at hx1
      cases hx1 with
      | @mp b _ hql hb =>
        obtain ⟨ents, clock, hh, hM⟩ := hr.s.objMap h2 hb
        have hax : (args.map a.eval)[0]? = some (.map (some b)) := by simp [ha, hex]
        simp only [execOp, hop, resolve, Sem.run_bind, Sem.run_pure, Result.andThen_ok, invoke, builtin]
        simp [Builtin.len_, hat, hax, run_underlying hu, goInt, MapKept.run_getObj_map hh, hM.size]
  unfold Oper.wp
  rw [hrun]
  exact hnext _ Λ (Kp.refl _) rfl hr.s (.t (.int _ _)) (fun _ h _ _ => h)

theorem o_ment {t kt et : TypeId} {x k : Operand} {ks : List KSh} {kag : Bool} {zv : V} {x' k' : Ar} {q c : Nat} {bs : List Nat} {cs : List T} {es : List (List T × V)} (hop : o.op = .mapEntry t x k) (hu : P.underlying t = some (.map kt et)) (hK : keySh P kt = some (ks, kag)) (hz : zeroOne P et = some zv)
    (hx : opA x = some x') (hk : opA k = some k') (hxv : x'.u st = .mp q) (hkc : keyC ks kag (k'.u st) = some cs) (hes : aget st.s.sto q = some (.map kag es (some (c, bs)))) (hok : keysOk ks es = true) :
    (∀ i e b, mfind cs es = some i → es[i]? = some e → bs[i]? = some b → OSound P o base st { v := .tup [e.2, .t (.int .i64 b)], ob := [(q, .map kag es (some (c, bs)))], rd := true }) ∧
    (mfind cs es = none → OSound P o base st { v := .tup [zv, .t (.int .i64 c)], ob := [(q, .map kag (es ++ [(cs, zv)]) (some (c + 1, bs ++ [c])))], rd := true }) := by
  have KT : KeyT P kt ks kag := ⟨hK⟩
  refine ⟨fun i e bb hm he hbb => ?_, fun hm => ?_⟩
  · intro C Λ a next Q hC hr _ _ hnext
    have hx1 := hr.opu hx
    obtain ⟨ek, hko⟩ := key_val (hr.opu hk) hkc
    rw [hxv] at hx1
    generalize hex : a.eval x = u at hx1
    cases hx1 with
    | @mp b _ hql hb =>
      obtain ⟨ents, clock, hh, hM⟩ := hr.s.objMap hes hb
      have hf := find_run KT hko hM.size (hM.keyed hok) hok Λ.w
      have hka : RepA Λ.lab Λ.w kag (kv kag cs) cs := ek ▸ (key_rep (hr.opu hk) hkc).1
      obtain ⟨e', h1, h2, h3, h4, _⟩ := mfind_at hm
      rw [he] at h1; simp at h1; subst h1
      obtain ⟨en, h5, h6⟩ := hM.val he
      have hek : en.key = kv kag cs := by
        have := hM.keyed hok i en e h5 he
        have hko' : keyOk ks e.1 = true := by unfold keysOk at hok; rw [List.all_eq_true] at hok; exact hok e (List.mem_of_getElem? he)
        rw [this, keyEq_kv hko hko' h2]
      have hbn : en.born = bb := by
        obtain ⟨_, e2⟩ := hM.known c bs rfl
        rw [← e2, List.getElem?_map] at hbb
        have : ents.toList[i]? = ents[i]? := Array.getElem?_toList
        rw [this, h5] at hbb
        simpa using hbb
      have hka : RepA Λ.lab Λ.w kag (kv kag cs) e.1 := hek ▸ (hM.at_ i en e h5 he).1
      have hrun : (execOp a.eval o).run P Λ.w = .ok (.value (.tuple #[en.val, .int .i64 bb])) (setMap Λ.w b (ents.modify i fun e => { e with key := kv kag cs }) clock) := by
        rw [hm] at hf
        simp only [h5, Option.map] at hf
        simp only [execOp, hop, hex, ek]
        simp only [Instr.mapEntry, Sem.run_bind, run_underlying hu, MapKept.run_getObj_map hh, Result.andThen_ok, check_run KT hko, hf, h5, Option.map, Option.getD, hek, stays_run KT hko, MapKept.run_setObj_map _ hh, hbn]
        rfl
      have hmod : (ents.modify i fun e => { e with key := kv kag cs }) = ents.modify i fun e => { e with key := kv kag cs, val := en.val } := by
        apply Array.ext'
        apply List.ext_getElem?
        intro j
        rw [Array.getElem?_toList, Array.getElem?_toList, Array.getElem?_modify, Array.getElem?_modify]
        split
        · rename_i hij; subst hij; rw [h5]; simp
        · rfl
      have hM2 := hM.set (i := i) hka h6
      have hes2 : es.set i (e.1, e.2) = es := by
        apply List.ext_getElem?
        intro j
        rw [List.getElem?_set]
        split
        · rename_i hij; subst hij
          rw [he]; simp; exact (List.getElem?_eq_some_iff.1 he).1
        · rfl
      rw [hes2, ← hmod] at hM2
      unfold Oper.wp
      rw [hrun]
      obtain ⟨g1, g2, g3⟩ := map_write (v := .tup [e.2, .t (.int .i64 bb)]) (rd := true) hr.s hql hb hh hM2
      refine hnext _ _ g1 rfl g2 (.tup rfl fun j u d hu hd => ?_) (fun k h _ _ => g3 k h)
      match j, hu, hd with
      | 0, hu, hd => simp at hu hd; subst hu; subst hd; exact h6.mono g1
      | 1, hu, hd => simp at hu hd; subst hu; subst hd; exact .t (.int _ _)
  · intro C Λ a next Q hC hr _ _ hnext
    have hx1 := hr.opu hx
    obtain ⟨ek, hko⟩ := key_val (hr.opu hk) hkc
    rw [hxv] at hx1
    generalize hex : a.eval x = u at hx1
    cases hx1 with
    | @mp b _ hql hb =>
      obtain ⟨ents, clock, hh, hM⟩ := hr.s.objMap hes hb
      have hf := find_run KT hko hM.size (hM.keyed hok) hok Λ.w
      have hka : RepA Λ.lab Λ.w kag (kv kag cs) cs := ek ▸ (key_rep (hr.opu hk) hkc).1
      obtain ⟨z, hz1, hz2⟩ := zeroOne_run hz Λ.w
      have hcl : clock = c := (hM.known c bs rfl).1
      subst hcl
      have hrun : (execOp a.eval o).run P Λ.w = .ok (.value (.tuple #[z, .int .i64 clock])) (setMap Λ.w b (ents.push { key := kv kag cs, val := z, born := clock }) (clock + 1)) := by
        rw [hm] at hf
        simp only [execOp, hop, hex, ek]
        simp only [Instr.mapEntry, Sem.run_bind, run_underlying hu, MapKept.run_getObj_map hh, Result.andThen_ok, check_run KT hko, hf, hz1, MapKept.run_setObj_map _ hh]
        rfl
      unfold Oper.wp
      rw [hrun]
      obtain ⟨g1, g2, g3⟩ := map_write (v := .tup [zv, .t (.int .i64 clock)]) (rd := true) hr.s hql hb hh (hM.push (sx' := some (clock + 1, bs ++ [clock])) hka (hz2 Λ) (fun c' bs' h => by simp at h; exact ⟨clock, bs, rfl, h.1.symm, h.2.symm⟩))
      refine hnext _ _ g1 rfl g2 (.tup rfl fun j u d hu hd => ?_) (fun k h _ _ => g3 k h)
      match j, hu, hd with
      | 0, hu, hd => simp at hu hd; subst hu; subst hd; exact (hz2 Λ).mono g1
      | 1, hu, hd => simp at hu hd; subst hu; subst hd; exact .t (.int _ _)

theorem findIdx_arr' {α : Type} (xs : Array α) (p : α → Bool) : xs.findIdx? p = xs.toList.findIdx? p := by
  obtain ⟨l⟩ := xs
  simp

theorem o_ests {t : TypeId} {x s v : Operand} {x' s' v' : Ar} {q c i : Nat} {bs : List Nat} {z : Int} {kd : IntKind} {kag : Bool} {es : List (List T × V)} (hop : o.op = .entryStore t x s v) (hx : opA x = some x') (hs : opA s = some s') (hv : opA v = some v') (hxv : x'.u st = .mp q) (hsv : s'.u st = .t (.int kd z))
    (hes : aget st.s.sto q = some (.map kag es (some (c, bs)))) (hi : bs.findIdx? (fun b : Nat => decide (((b : Nat) : Int) = z)) = some i) :
    OSound P o base st { v := .top, ob := [(q, .map kag (es.modify i fun e => (e.1, v'.u st)) (some (c, bs)))], rd := true } := by
  intro C Λ a next Q hC hr _ _ hnext
  have hx1 := hr.opu hx
  have hs1 := hr.opu hs
  have hv1 := hr.opu hv
  rw [hsv] at hs1
  have es1 := hs1.repT.int_inv
  rw [hxv] at hx1
  generalize hex : a.eval x = u at hx1
  cases hx1 with
  | @mp b _ hql hb =>
    obtain ⟨ents, clock, hh, hM⟩ := hr.s.objMap hes hb
    obtain ⟨e1, e2⟩ := hM.known c bs rfl
    have hfi : ents.findIdx? (fun e => (e.born : Int) == z) = some i := by
      rw [findIdx_arr', ← hi, ← e2, List.findIdx?_map]
      congr 1
    have hlt : i < ents.size := by
      have := (Array.findIdx?_eq_some_iff_findIdx_eq.1 hfi).1
      exact this
    have hen : ents[i]? = some ents[i] := by simp [hlt]
    have hle : i < es.length := by rw [← hM.size]; exact hlt
    have hee : es[i]? = some es[i] := by simp [hle]
    have hka := (hM.at_ i _ _ hen hee).1
    have hrun : (execOp a.eval o).run P Λ.w = .ok .skip (setMap Λ.w b (ents.modify i fun e => { e with val := a.eval v }) clock) := by
      simp only [execOp, hop, hex, es1]
      have hz : (asInt (.int kd z)).run P Λ.w = .ok z Λ.w := by simp [asInt, asIntOf]
      simp only [Instr.entryStore, Sem.run_bind, MapKept.run_getObj_map hh, Result.andThen_ok, hz, hfi, MapKept.run_setObj_map _ hh, Sem.run_pure]
      rfl
    have hmod : (ents.modify i fun e => { e with val := a.eval v }) = ents.modify i fun e => { e with key := ents[i].key, val := a.eval v } := by
      apply Array.ext'
      apply List.ext_getElem?
      intro j
      rw [Array.getElem?_toList, Array.getElem?_toList, Array.getElem?_modify, Array.getElem?_modify]
      split
      · rename_i hij; subst hij; rw [hen]; simp
      · rfl
    have hes2 : (es.modify i fun e => (e.1, v'.u st)) = es.set i (es[i].1, v'.u st) := by
      apply List.ext_getElem?
      intro j
      rw [List.getElem?_modify, List.getElem?_set]
      split
      · rename_i hij; subst hij; rw [hee]; simp
      · simp
    have hM2 := hM.set (i := i) hka hv1
    rw [← hmod, ← hes2] at hM2
    unfold Oper.wp
    rw [hrun]
    obtain ⟨g1, g2, g3⟩ := map_write (v := .top) (rd := true) hr.s hql hb hh hM2
    exact hnext undef _ g1 rfl g2 .top (fun k h _ _ => g3 k h)

end
end Go.GB


/-
  GbMr: ranging over maps: the iterator, and the entry at hand.
-/
namespace Go.GB

theorem entAt_spec {z : Nat} {e : List T × V} : ∀ {es : List (List T × V)} {bs : List Nat}, entAt z es bs = some e → ∃ i : Nat, es[i]? = some e ∧ bs[i]? = some z
  | [], bs, h => by simp [entAt] at h
  | x :: r, [], h => by simp [entAt] at h
  | x :: r, b :: bs, h => by
    simp only [entAt] at h
    split at h
    · rename_i hb; simp at h; subst h; exact ⟨0, rfl, by simp [hb]⟩
    · obtain ⟨i, h1, h2⟩ := entAt_spec h
      exact ⟨i + 1, by simpa using h1, by simpa using h2⟩
theorem RepA.keyV {Λ : L} {kag : Bool} {v : Value} {cs : List T} (h : RepA Λ.lab Λ.w kag v cs) : RelV Λ v (keyV kag cs) := by
  unfold RepA at h
  unfold Go.GB.keyV
  cases kag with
  | true =>
    obtain ⟨vs, rfl, hs, hv⟩ := h
    simp only [if_true]
    refine .agg (by simpa using hs) fun j u c a b => ?_
    rw [List.getElem?_map, Option.map_eq_some_iff] at b
    obtain ⟨x, b1, rfl⟩ := b
    exact .t (hv j u x a b1)
  | false =>
    obtain ⟨x, rfl, hv⟩ := h
    exact .t hv
theorem toArray_last {l : List Nat} {z : Nat} (h : l.getLast? = some z) : ∃ a : Array Nat, l.toArray = a.push z := by
  have hne : l ≠ [] := by intro e; subst e; simp at h
  refine ⟨l.dropLast.toArray, ?_⟩
  have h2 : l.getLast hne = z := by rw [List.getLast?_eq_some_getLast hne] at h; simpa using h
  rw [List.push_toArray, ← h2, List.dropLast_concat_getLast hne]

section
variable {P : Program} {o : Oper} {st : St} {base : Nat}

theorem e_ient {gc : Bool} {x : Operand} {x' : Ar} {v : V} {ps : List Bool} (hop : o.op = .entry x) (hx : opA x = some x') (he : evalN gc st (.ient x') = some (v, ps)) (hp : ∀ q ∈ ps, q) : ESound P o gc st v := by
  intro C Λ a hC hg hr
  simp only [evalN] at he
  generalize h1 : rd gc st x' = rx at he
  obtain ⟨vx, p1⟩ := rx
  split at he
  · rename_i k p hk
    simp only [Prod.mk.injEq] at hk
    obtain ⟨rfl, rfl⟩ := hk
    split at he
    · rename_i q s seen c hit
      split at he
      · rename_i kag es c' bs z hes hz
        split at he
        · rename_i e hent
          simp only [Option.some.injEq, Prod.mk.injEq] at he
          obtain ⟨rfl, rfl⟩ := he
          have hxv : RelV Λ (a.eval x) (.ptr k 0) := rd_sound hr hx h1 (fun q hq => hp q (by simp [hq])) hg
          have hcc : c' = c := by have := hp (decide (c' = c)) (by simp); simpa using this
          have hnd : bs.Nodup := by have := hp (decide bs.Nodup) (by simp); simpa using this
          subst hcc
          obtain ⟨b, bm, e1, e2, e3, e4⟩ := (hr.s.sto k _ hit).2
          obtain ⟨ents, clock, hh, hM⟩ := hr.s.objMap hes e3
          obtain ⟨k1, k2⟩ := hM.known c' bs rfl
          obtain ⟨i, g1, g2⟩ := entAt_spec hent
          obtain ⟨seen', hs'⟩ := toArray_last hz
          have hil : i < ents.size := by rw [hM.size]; exact (List.getElem?_eq_some_iff.1 g1).1
          have hen : ents[i]? = some ents[i] := by simp [hil]
          have hborn : ents[i].born = z := by
            rw [← k2, List.getElem?_map] at g2
            have : ents.toList[i]? = ents[i]? := Array.getElem?_toList
            rw [this, hen] at g2
            simpa using g2
          have hmem : ents[i] ∈ ents.toList := by simp
          rw [hs', ← hborn, ← k1] at e2
          have hrun := run_entry_at (P := P) Λ.w b bm s seen' ents clock ents[i] e2 hh hmem (by rw [k2]; exact hnd)
          generalize hex : a.eval x = u at hxv
          cases hxv with
          | @ptr b' _ _ hkl hb' =>
            obtain rfl := hr.s.inj b' b k hb' e1
            refine ⟨.tuple #[ents[i].key, ents[i].val], ?_, ?_⟩
            · simp only [execOp, hop, hex]
              simp only [Sem.run_bind, hrun, Result.andThen_ok, Sem.run_pure]
            · obtain ⟨q1, q2⟩ := hM.at_ i _ _ hen g1
              refine .tup rfl fun j u c hj hc => ?_
              match j, hj, hc with
              | 0, hj, hc => simp at hj hc; subst hj; subst hc; exact q1.keyV
              | 1, hj, hc => simp at hj hc; subst hj; subst hc; exact q2
        · cases he
      · cases he
    · cases he
  · cases he

theorem o_mrange {t kt et : TypeId} {x : Operand} {x' : Ar} {q c : Nat} {bs : List Nat} {kag : Bool} {es : List (List T × V)} (hop : o.op = .range t x) (hu : P.underlying t = some (.map kt et)) (hx : opA x = some x') (hxv : x'.u st = .mp q)
    (hes : aget st.s.sto q = some (.map kag es (some (c, bs)))) : OSound P o base st { v := .ptr base 0, ob := [(base, .iter q c [] c)], n := 1, rd := true } := by
  intro C Λ a next Q hC hr hle hfree hnext
  have hx1 := hr.opu hx
  rw [hxv] at hx1
  generalize hex : a.eval x = u at hx1
  cases hx1 with
  | @mp b _ hql hb =>
    obtain ⟨ents, clock, hh, hM⟩ := hr.s.objMap hes hb
    obtain ⟨rfl, _⟩ := hM.known c bs rfl
    have hrun : (execOp a.eval o).run P Λ.w = .ok (.value (.pointer (some ⟨Λ.w.heap.size, 0, none⟩))) (Λ.w.alloc (.mapIter (some b) clock #[] clock)) := by
      simp only [execOp, hop, hex]
      simp only [Sem.run_bind, run_range_map Λ.w t kt et b ents clock hu hh, Result.andThen_ok, Sem.run_pure]
    unfold Oper.wp
    rw [hrun]
    obtain ⟨hb1, hb2, hb3⟩ := hfree base (Nat.le_refl _) (by simp)
    have g := Grew.alloc Λ.w (.mapIter (some b) clock #[] clock)
    have hne : b ≠ Λ.w.heap.size := Nat.ne_of_lt (heap_lt hh)
    obtain ⟨k1, k2, k3⟩ := new_obj hr.s g hb1 hb2 rfl (ao := .iter q clock [] clock) ⟨Λ.w.heap.size, b, by simp [relab_same], g.top, by simp only; rw [relab_ne hne]; exact hb, hql⟩
    exact hnext _ _ k1 rfl k2 (.ptr hb1 (by simp [relab_same])) (fun k hk _ hlt => k3 k hk (by rcases hlt with h | h <;> simp at h <;> omega))
end
end Go.GB


/-
  GbMs: maps whose keys hold structs or pointers: a look at an empty map, or at one whose first key is the same.
-/
namespace Go.GB
section
variable {P : Program} {ops : Array Oper} {o : Oper} {base : Nat} {st : St}

theorem keyOk_append : ∀ {a b : List KSh} {cs : List T}, keyOk (a ++ b) cs = true → keyOk a (cs.take a.length) = true ∧ keyOk b (cs.drop a.length) = true
  | [], b, cs, h => by simpa [keyOk] using h
  | s :: a, b, [], h => by simp [keyOk] at h
  | s :: a, b, x :: cs, h => by
    simp only [List.cons_append, keyOk, Bool.and_eq_true] at h
    obtain ⟨h1, h2⟩ := keyOk_append h.2
    exact ⟨by simp [keyOk, h.1, h1], by simpa using h2⟩

/-- what is known of a type whose key is compared with itself -/
def DeepOk (P : Program) (n : Nat) (t : TypeId) (v : Value) : Prop := ∀ w : World, (Op.equalIn n t v v).run P w = .ok true w ∧ ∀ em, (Instr.checkKey em n t v).run P w = .ok () w

theorem eqSelf_bool {t : TypeId} (hu : P.underlying t = some .bool) (n : Nat) (b : Bool) : DeepOk P (n + 1) t (.bool b) := fun w => by
  refine ⟨?_, fun em => by simp [Instr.checkKey, run_underlying hu]⟩
  rw [run_equalIn_bool w n t b b hu]; simp
theorem eqSelf_int {t : TypeId} {k : IntKind} (hu : P.underlying t = some (.int k)) (n : Nat) (z : Int) : DeepOk P (n + 1) t (.int k z) := fun w => by
  refine ⟨?_, fun em => by simp [Instr.checkKey, run_underlying hu]⟩
  rw [run_equalIn_int w n t _ _ _ _ hu]; simp
theorem eqSelf_str {t : TypeId} (hu : P.underlying t = some .string) (n : Nat) (s : ByteArray) : DeepOk P (n + 1) t (.string s) := fun w => by
  refine ⟨?_, fun em => by simp [Instr.checkKey, run_underlying hu]⟩
  rw [run_equalIn_string w n t _ _ hu]; simp
theorem eqSelf_ptr {t e : TypeId} (hu : P.underlying t = some (.pointer e)) (he : (P.info? e).isSome = true) (n : Nat) (a : Addr) : DeepOk P (n + 1) t (.pointer (some a)) := fun w => by
  obtain ⟨j, hj⟩ := Option.isSome_iff_exists.1 he
  refine ⟨?_, fun em => by simp [Instr.checkKey, run_underlying hu]⟩
  simp [Op.equalIn, run_underlying hu, sizeOf, typeInfo, hj, run_sameAddr_same]

theorem kv_part {f : Field} {l : List KSh} {cs : List T} {i : Nat} (hi : f.offset = i) (hp : isAggT P f.type = false ∧ l.length = 1 ∧ (∃ d, P.underlying f.type = some d) ∨ isAggT P f.type = true ∧ szOf P f.type = some l.length) (hl : keyOk l ((cs.drop i).take l.length) = true) (w : World) :
    (part f.type (cs.map Tv).toArray f.offset).run P w = .ok (kv (isAggT P f.type) ((cs.drop i).take l.length)) w := by
  obtain ⟨hlen, _⟩ := keyOk_at hl
  subst hi
  rcases hp with ⟨h1, h2, d, h3⟩ | ⟨h1, h2⟩
  · rw [h2] at hlen ⊢
    obtain ⟨x, hx⟩ := List.length_eq_one_iff.1 hlen.symm
    have hcx : cs[f.offset]? = some x := by
      have : ((cs.drop f.offset).take 1)[0]? = some x := by rw [hx]; rfl
      simpa using this
    rw [part_one h3 h1 (v := Tv x) (by simp [hcx]) w, h1, hx]
    rfl
  · rw [part_agg h2 h1 w, h1]
    simp only [kv, if_true]
    congr 2
    apply Array.ext'
    simp [List.map_take, List.map_drop]

theorem deepFs_ok {g : TypeId → Option (List KSh)} {n : Nat} (hg : ∀ t l cs, g t = some l → keyOk l cs = true → (∃ d, P.underlying t = some d) ∧ DeepOk P n t (kv (isAggT P t) cs)) : ∀ (fs : List Field) (i : Nat) (l : List KSh) (cs : List T), deepFs P g i fs = some l → keyOk l (cs.drop i) = true →
    ∀ w : World, (Op.eqFields n (cs.map Tv).toArray (cs.map Tv).toArray fs).run P w = .ok true w ∧ ∀ f ∈ fs, f.name ≠ "_" ∧ ∃ v, (part f.type (cs.map Tv).toArray f.offset).run P w = .ok v w ∧ ∀ em, (Instr.checkKey em n f.type v).run P w = .ok () w
  | [], i, l, cs, h, hk, w => by simp [Op.eqFields]
  | f :: r, i, l, cs, h, hk, w => by
    simp only [deepFs] at h
    split at h
    · rename_i hfo
      split at h
      · rename_i a ha
        split at h
        · rename_i hp
          simp only [Option.map_eq_some_iff] at h
          obtain ⟨b, hb, rfl⟩ := h
          obtain ⟨k1, k2⟩ := keyOk_append hk
          rw [List.drop_drop] at k2
          obtain ⟨hd, hD⟩ := hg _ _ _ ha k1
          have hpart := kv_part (P := P) hfo.1 (hp.elim (fun q => .inl ⟨q.1, q.2, hd⟩) .inr) k1 w
          obtain ⟨q1, q2⟩ := deepFs_ok hg r (i + a.length) b cs hb k2 w
          refine ⟨?_, fun f' hf' => ?_⟩
          · simp only [Op.eqFields, hfo.2, ne_eq, not_false_eq_true, if_true, Sem.run_bind, hpart, Result.andThen_ok, (hD w).1]
            simpa using q1
          · rcases List.mem_cons.1 hf' with rfl | hf'
            · exact ⟨hfo.2, _, hpart, fun em => (hD w).2 em⟩
            · exact q2 f' hf'
        · cases h
      · cases h
    · cases h

theorem deep_ok : ∀ (d n : Nat) (t : TypeId) (ks : List KSh) (cs : List T), deepSh P d t = some ks → d ≤ n → keyOk ks cs = true → (∃ d, P.underlying t = some d) ∧ DeepOk P n t (kv (isAggT P t) cs)
  | 0, n, t, ks, cs, h, _, _ => by simp [deepSh] at h
  | d + 1, 0, t, ks, cs, h, hn, _ => by omega
  | d + 1, n + 1, t, ks, cs, h, hn, hk => by
    simp only [deepSh] at h
    split at h
    · rename_i hu
      simp at h; subst h
      obtain ⟨x, rfl, hx⟩ := keyOk_one hk
      have ha : isAggT P t = false := by simp [isAggT, hu]
      cases x <;> simp [KSh.ok] at hx
      refine ⟨⟨_, hu⟩, ?_⟩
      rw [ha]; exact eqSelf_bool hu n _
    · rename_i k hu
      simp at h; subst h
      obtain ⟨x, rfl, hx⟩ := keyOk_one hk
      have ha : isAggT P t = false := by simp [isAggT, hu]
      cases x <;> simp [KSh.ok] at hx
      subst hx
      refine ⟨⟨_, hu⟩, ?_⟩
      rw [ha]; exact eqSelf_int hu n _
    · rename_i hu
      simp at h; subst h
      obtain ⟨x, rfl, hx⟩ := keyOk_one hk
      have ha : isAggT P t = false := by simp [isAggT, hu]
      cases x <;> simp [KSh.ok] at hx
      refine ⟨⟨_, hu⟩, ?_⟩
      rw [ha]; exact eqSelf_str hu n _
    · rename_i e hu
      split at h
      · rename_i he
        simp at h; subst h
        obtain ⟨x, rfl, hx⟩ := keyOk_one hk
        have ha : isAggT P t = false := by simp [isAggT, hu]
        cases x <;> simp [KSh.ok] at hx
        refine ⟨⟨_, hu⟩, ?_⟩
        rw [ha]; exact eqSelf_ptr hu he n _
      · cases h
    · rename_i fs hu
      split at h
      · rename_i hst
        have ha : isAggT P t = true := by simp [isAggT, hu]
        refine ⟨⟨_, hu⟩, fun w => ?_⟩
        have hF := deepFs_ok (P := P) (n := n) (fun t' l' cs' h1 h2 => deep_ok d n t' l' cs' h1 (by omega) h2) fs.toList 0 ks cs h (by simpa using hk) w
        have hfo : P.fieldsOf t = fs := by simp [Program.fieldsOf, hu]
        have ht : P.underlying t = some (.struct (P.fieldsOf t)) := by rw [hfo]; exact hu
        rw [ha]
        simp only [kv, if_true]
        refine ⟨?_, fun em => ?_⟩
        · rw [run_equalIn_struct w n t _ _ ht hst, hfo]
          exact hF.1
        · rw [Instr.checkKey]
          simp only [Sem.run_bind, run_underlying hu, Result.andThen_ok]
          rw [← Array.forIn_toList]
          have each := hF.2
          generalize fs.toList = L at each
          induction L with
          | nil => simp
          | cons f L ih =>
            obtain ⟨h1, v, h2, h3⟩ := each f (by simp)
            simp only [List.forIn_cons, Sem.run_bind, h1, ne_eq, not_false_eq_true, if_true, Result.andThen_ok, h2, h3 em, Sem.run_pure]
            exact ih fun f' hf' => each f' (by simp [hf'])
      · cases h
    · cases h
  termination_by d n => (d, n)

theorem find_self {kt : TypeId} {ks : List KSh} (ha : isAggT P kt = true) (hK : deepSh P 8 kt = some ks) {cs : List T} (hc : keyOk ks cs = true) {ents : Array MapEntry} (h : ents = #[] ∨ ∃ e, ents[0]? = some e ∧ e.key = kv true cs) (w : World) :
    (Instr.findKey kt (kv true cs) ents.toList).run P w = .ok ((ents[0]?).map fun e => (0, e.val)) w := by
  obtain ⟨⟨dd, hd⟩, hD⟩ := deep_ok 8 10000 kt ks cs hK (by omega) hc
  have hdd : (∃ fs, dd = .struct fs) ∨ ∃ n e, dd = .array n e := by
    unfold isAggT at ha; rw [hd] at ha; cases dd <;> simp at ha
    · exact .inr ⟨_, _, rfl⟩
    · exact .inl ⟨_, rfl⟩
  have hfk : ∀ l, (Instr.findKey kt (kv true cs) l).run P w = (Instr.findAsking kt (kv true cs) l).run P w := by
    intro l
    rcases hdd with ⟨fs, rfl⟩ | ⟨n, e, rfl⟩
    all_goals
      cases l with
      | nil => simp [Instr.findKey, run_underlying hd, Instr.findNow, Instr.findAsking]
      | cons e r => simp [Instr.findKey, run_underlying hd, Instr.findNow, Instr.sameNow]
  rw [hfk]
  rcases h with rfl | ⟨e, he, hk⟩
  · simp [Instr.findAsking]
  · have : ∃ r, ents.toList = e :: r := by
      rw [← Array.getElem?_toList] at he
      cases hl : ents.toList with
      | nil => rw [hl] at he; simp at he
      | cons x r => rw [hl] at he; simp at he; subst he; exact ⟨r, rfl⟩
    obtain ⟨r, hr⟩ := this
    have hq := (hD w).1
    rw [ha] at hq
    rw [hr, he]
    simp [Instr.findAsking, hk, Op.equal, Op.maxDepth, hq]

theorem check_self {kt : TypeId} {ks : List KSh} (ha : isAggT P kt = true) (hK : deepSh P 8 kt = some ks) {cs : List T} (hc : keyOk ks cs = true) (em : Bool) (w : World) : (Instr.checkKey em 10000 kt (kv true cs)).run P w = .ok () w := by
  have := (((deep_ok 8 10000 kt ks cs hK (by omega) hc).2) w).2 em
  rwa [ha] at this

theorem stays_self {ks : List KSh} {cs : List T} (hc : keyOk ks cs = true) (w : World) : (Instr.keyThatStays (kv true cs) (kv true cs)).run P w = .ok (kv true cs) w := by
  have hs : Instr.sameBits 10000 (kv true cs) (kv true cs) = true := by
    obtain ⟨h1, h2⟩ := keyOk_at hc
    simp only [kv, if_true]
    rw [Instr.sameBits]
    simp only [List.size_toArray, List.length_map, BEq.rfl, Bool.true_and]
    rw [List.all_eq_true]
    intro p hp
    have hz : ∀ (l : List Value) (p : Value × Value), p ∈ l.zip l → p.1 = p.2 ∧ p.1 ∈ l := by
      intro l
      induction l with
      | nil => intro p h; simp at h
      | cons a l ih =>
        intro p h
        simp only [List.zip_cons_cons, List.mem_cons] at h
        rcases h with rfl | h
        · simp
        · obtain ⟨a1, a2⟩ := ih p h
          exact ⟨a1, List.mem_cons_of_mem _ a2⟩
    obtain ⟨e1, e2⟩ := hz _ p hp
    simp only [List.mem_map] at e2
    obtain ⟨x, hx, e3⟩ := e2
    obtain ⟨j, hj⟩ := List.mem_iff_getElem?.1 hx
    have hlt : j < ks.length := by rw [h1]; exact (List.getElem?_eq_some_iff.1 hj).1
    obtain ⟨a, b⟩ := p
    simp only at e1 e3 ⊢
    rw [← e1, ← e3]
    exact sameBits_Tv x 9999 ⟨ks[j], h2 j ks[j] x (by simp [hlt]) hj⟩
  simp [Instr.keyThatStays, hs]

theorem o_plook {t kt et : TypeId} {x k : Operand} {ks : List KSh} {zv : V} {x' k' : Ar} {q : Nat} {cs : List T} {es : List (List T × V)} {sx : Option (Nat × List Nat)} (hop : o.op = .lookup t x k true) (hu : P.underlying t = some (.map kt et)) (ha : isAggT P kt = true) (hK : deepSh P 8 kt = some ks) (hz : zeroOne P et = some zv)
    (hx : opA x = some x') (hk : opA k = some k') (hxv : x'.u st = .mp q) (hkc : keyC ks true (k'.u st) = some cs) (hes : aget st.s.sto q = some (.map true es sx)) :
    (∀ v, pget ks cs es = some (some v) → OSound P o base st { v := .tup [v, .t (.bool true)], rd := true }) ∧ (pget ks cs es = some none → OSound P o base st { v := .tup [zv, .t (.bool false)], rd := true }) := by
  refine ⟨fun v hg => ?_, fun hg => ?_⟩
  all_goals
    intro C Λ a next Q hC hr _ _ hnext
    have hx1 := hr.opu hx
    obtain ⟨ek, hko⟩ := key_val (hr.opu hk) hkc
    rw [hxv] at hx1
    generalize hex : a.eval x = u at hx1
  · cases hx1 with
    | @mp b _ hql hb =>
      obtain ⟨ents, clock, hh, hM⟩ := hr.s.objMap hes hb
      cases es with
      | nil => simp [pget] at hg
      | cons e r =>
        simp only [pget] at hg
        split at hg
        · rename_i hc
          simp only [Option.some.injEq] at hg; subst hg
          simp only [Bool.and_eq_true] at hc
          obtain ⟨en, g1, g2⟩ := hM.val (i := 0) (x := e) rfl
          have hek : en.key = kv true cs := by
            rw [(hM.at_ 0 en e g1 rfl).1.plain hc.1, keyEq_kv hko hc.1 hc.2]
          have hf := find_self ha hK hko (.inr ⟨en, g1, hek⟩) Λ.w
          have hrun : (execOp a.eval o).run P Λ.w = .ok (.value (.tuple #[en.val, .bool true])) Λ.w := by
            simp only [execOp, hop, hex, ek]
            simp only [Instr.lookup, Sem.run_bind, run_underlying hu, MapKept.run_getObj_map hh, Result.andThen_ok, Sem.run_pure, check_self ha hK hko, hf, g1, Option.map, if_true]
          unfold Oper.wp
          rw [hrun]
          exact hnext _ Λ (Kp.refl Λ) rfl hr.s (okV_rel g2 true true) (fun k h _ _ => h)
        · cases hg
  · cases hx1 with
    | @mp b _ hql hb =>
      obtain ⟨ents, clock, hh, hM⟩ := hr.s.objMap hes hb
      cases es with
      | cons e r =>
        simp only [pget] at hg
        split at hg <;> cases hg
      | nil =>
        obtain ⟨z, hz1, hz2⟩ := zeroOne_run hz Λ.w
        have h0 : ents = #[] := by have := hM.size; simpa using this
        subst h0
        have hf := find_self ha hK hko (.inl rfl) Λ.w
        have hrun : (execOp a.eval o).run P Λ.w = .ok (.value (.tuple #[z, .bool false])) Λ.w := by
          simp only [execOp, hop, hex, ek]
          have e0 : (#[] : Array MapEntry)[0]? = none := rfl
          simp only [Instr.lookup, Sem.run_bind, run_underlying hu, MapKept.run_getObj_map hh, Result.andThen_ok, Sem.run_pure, check_self ha hK hko, hf, e0, Option.map, if_true, hz1]
        unfold Oper.wp
        rw [hrun]
        exact hnext _ Λ (Kp.refl Λ) rfl hr.s (okV_rel (hz2 Λ) true false) (fun k h _ _ => h)

theorem o_pupd {t kt et : TypeId} {x k v : Operand} {ks : List KSh} {x' k' v' : Ar} {q : Nat} {cs : List T} {es fs : List (List T × V)} {sx : Option (Nat × List Nat)} (hop : o.op = .mapUpdate t x k v) (hu : P.underlying t = some (.map kt et)) (ha : isAggT P kt = true) (hK : deepSh P 8 kt = some ks)
    (hx : opA x = some x') (hk : opA k = some k') (hv : opA v = some v') (hxv : x'.u st = .mp q) (hkc : keyC ks true (k'.u st) = some cs) (hes : aget st.s.sto q = some (.map true es sx)) (hfs : pset ks cs (v'.u st) es = some fs) :
    OSound P o base st { v := .top, ob := [(q, .map true fs none)], rd := true } := by
  intro C Λ a next Q hC hr _ _ hnext
  have hx1 := hr.opu hx
  have hv1 := hr.opu hv
  obtain ⟨ek, hko⟩ := key_val (hr.opu hk) hkc
  have hka : RepA Λ.lab Λ.w true (kv true cs) cs := ek ▸ (key_rep (hr.opu hk) hkc).1
  rw [hxv] at hx1
  generalize hex : a.eval x = u at hx1
  cases hx1 with
  | @mp b _ hql hb =>
    obtain ⟨ents, clock, hh, hM⟩ := hr.s.objMap hes hb
    cases es with
    | nil =>
      simp only [pset, Option.some.injEq] at hfs
      subst hfs
      have h0 : ents = #[] := by have := hM.size; simpa using this
      subst h0
      have hf := find_self ha hK hko (.inl rfl) Λ.w
      have e0 : (#[] : Array MapEntry)[0]? = none := rfl
      have hrun : (execOp a.eval o).run P Λ.w = .ok .skip (setMap Λ.w b (Array.push #[] { key := kv true cs, val := a.eval v, born := clock }) (clock + 1)) := by
        simp only [execOp, hop, hex, ek]
        simp only [Instr.mapUpdate, Sem.run_bind, run_underlying hu, MapKept.run_getObj_map hh, Result.andThen_ok, check_self ha hK hko, hf, e0, Option.map, MapKept.run_setObj_map _ hh]
        rfl
      unfold Oper.wp
      rw [hrun]
      obtain ⟨g1, g2, g3⟩ := map_write (v := .top) (rd := true) hr.s hql hb hh (hM.push (sx' := none) hka hv1 (fun _ _ h => by cases h))
      exact hnext undef _ g1 rfl g2 .top (fun k h _ _ => g3 k h)
    | cons e r =>
      simp only [pset] at hfs
      split at hfs
      · rename_i hc
        simp only [Option.some.injEq] at hfs; subst hfs
        simp only [Bool.and_eq_true] at hc
        obtain ⟨en, g1, g2⟩ := hM.val (i := 0) (x := e) rfl
        have hek : en.key = kv true cs := by
          rw [(hM.at_ 0 en e g1 rfl).1.plain hc.1, keyEq_kv hko hc.1 hc.2]
        have hf := find_self ha hK hko (.inr ⟨en, g1, hek⟩) Λ.w
        have hrun : (execOp a.eval o).run P Λ.w = .ok .skip (setMap Λ.w b (ents.modify 0 fun e => { e with key := kv true cs, val := a.eval v }) clock) := by
          simp only [execOp, hop, hex, ek]
          simp only [Instr.mapUpdate, Sem.run_bind, run_underlying hu, MapKept.run_getObj_map hh, Result.andThen_ok, check_self ha hK hko, hf, g1, Option.map, Option.getD, hek, stays_self hko, MapKept.run_setObj_map _ hh]
          rfl
        unfold Oper.wp
        rw [hrun]
        obtain ⟨k1, k2, k3⟩ := map_write (v := .top) (rd := true) hr.s hql hb hh ((hM.set (i := 0) hka hv1).forget)
        exact hnext undef _ k1 rfl k2 .top (fun k h _ _ => k3 k h)
      · cases hfs
end
end Go.GB


/-
  GbOf: steps that concern growing arrays that may be changed, and families of objects and arrays.
-/
namespace Go.GB

/-- a label of a name's growing array or family -/
def Lab.ofK (k : Nat) : Lab → Prop
  | .fob j _ => j = k
  | .far j _ _ => j = k
  | _ => False

/-- a step that concerns the growing array, or family, of one name -/
structure FStep (Λ Λ' : L) (k : Nat) : Prop where
  os : Λ'.w.os = Λ.w.os
  tape : Λ'.w.tape = Λ.w.tape
  output : Λ'.w.output = Λ.w.output
  size : Λ.w.heap.size ≤ Λ'.w.heap.size
  nxt : Λ'.nxt = Λ.nxt
  fro : Λ'.fro = Λ.fro
  lab : ∀ b, Λ'.lab b = Λ.lab b ∨ ((Λ'.lab b).ofK k ∧ ((Λ.lab b).ofK k ∨ Λ.w.heap.size ≤ b))
  heap : ∀ b, b < Λ.w.heap.size → ¬ (Λ.lab b).ofK k → Λ'.w.heap[b]? = Λ.w.heap[b]?
  fob : ∀ b i, Λ.lab b = .fob k i → Λ'.lab b = .fob k i ∧ ∀ N, rowSize Λ.w b = some N → rowSize Λ'.w b = some N
  far : ∀ b i n, b < Λ.w.heap.size → Λ.lab b = .far k i n → Λ'.frf k i = Λ.frf k i → Λ'.lab b = .far k i n ∧ Λ'.w.heap[b]? = Λ.w.heap[b]?
  rd : ∀ b i n, b < Λ.w.heap.size → Λ.lab b = .far k i n → ∀ o, o < n → Rd Λ'.lab b o ∧ Λ'.w.cell? ⟨b, o, none⟩ = Λ.w.cell? ⟨b, o, none⟩
  frfO : ∀ j i, j ≠ k → Λ'.frf j i = Λ.frf j i
  frfK : ∀ i, Λ.frf k i ≤ Λ'.frf k i
  fobN : ∀ b i, Λ'.frf k 0 = Λ.frf k 0 → Λ'.lab b = .fob k i → Λ.lab b = .fob k i
  inj : ∀ b b' i, Λ'.lab b = .fob k i → Λ'.lab b' = .fob k i → b = b'
  new : ∀ b, Λ'.w.heap.size ≤ b → Λ'.lab b = .fix none

theorem FStep.old {Λ Λ' : L} {k : Nat} (F : FStep Λ Λ' k) {s : S} (h : RelS Λ s) {b : Nat} {x : Lab} (hl : Λ.lab b = x) (hx : x ≠ .fix none) (hk : ¬ x.ofK k) : Λ'.lab b = x ∧ Λ'.w.heap[b]? = Λ.w.heap[b]? := by
  have hlt : b < Λ.w.heap.size := by
    rcases Nat.lt_or_ge b Λ.w.heap.size with h' | h'
    · exact h'
    · rw [h.new b h'] at hl; exact absurd hl.symm hx
  refine ⟨?_, F.heap b hlt (by rw [hl]; exact hk)⟩
  rcases F.lab b with e | ⟨_, e | e⟩
  · rw [e]; exact hl
  · rw [hl] at e; exact absurd e hk
  · omega
theorem FStep.back {Λ Λ' : L} {k : Nat} (F : FStep Λ Λ' k) {b : Nat} {x : Lab} (hl : Λ'.lab b = x) (hk : ¬ x.ofK k) : Λ.lab b = x := by
  rcases F.lab b with e | ⟨e, _⟩
  · rw [← e]; exact hl
  · rw [hl] at e; exact absurd e hk

theorem FStep.kp {Λ Λ' : L} {k : Nat} (F : FStep Λ Λ' k) {s : S} (h : RelS Λ s) : Kp Λ Λ' := by
  have hfix : ∀ b, b < Λ.w.heap.size → ∀ fr, Λ.lab b = .fix fr → Λ'.lab b = .fix fr ∧ Λ'.w.heap[b]? = Λ.w.heap[b]? := by
    intro b hb fr hl
    refine ⟨?_, F.heap b hb (by rw [hl]; exact id)⟩
    rcases F.lab b with e | ⟨_, e | e⟩
    · rw [e]; exact hl
    · rw [hl] at e; exact absurd e id
    · omega
  have hlt : ∀ {b : Nat} {x : Lab}, Λ.lab b = x → x ≠ .fix none → b < Λ.w.heap.size := by
    intro b x hl hx
    rcases Nat.lt_or_ge b Λ.w.heap.size with h' | h'
    · exact h'
    · rw [h.new b h'] at hl; exact absurd hl.symm hx
  refine ⟨⟨F.os, F.tape, F.output, F.size, hfix, fun b hb j fr hl o ho => ?_, fun b hb j i fr hl o ho => ?_⟩, by rw [F.nxt]; exact Nat.le_refl _, fun b j _ hl => (F.old h hl (by simp) id).1, fun b j n _ _ hl _ => F.old h hl (by simp) id,
    fun j _ => by rw [F.fro]; exact Nat.le_refl _, fun b j i _ hl => ?_, fun b j i n _ hb hl hf => ?_, fun j i _ => ?_, fun b j i _ _ hf hl => ?_⟩
  · obtain ⟨e1, e2⟩ := F.old h hl (by simp) id
    exact ⟨by simp [Rd, e1, ho], cell?_heap e2⟩
  · by_cases e : j = k
    · subst e; exact F.rd b i fr hb hl o ho
    · obtain ⟨e1, e2⟩ := F.old h hl (by simp) e
      exact ⟨by simp [Rd, e1, ho], cell?_heap e2⟩
  · by_cases e : j = k
    · subst e; exact F.fob b i hl
    · obtain ⟨e1, e2⟩ := F.old h hl (by simp) e
      exact ⟨e1, fun N hN => by unfold rowSize at hN ⊢; rw [e2]; exact hN⟩
  · by_cases e : j = k
    · subst e; exact F.far b i n hb hl hf
    · exact F.old h hl (by simp) e
  · by_cases e : j = k
    · subst e; exact F.frfK i
    · rw [F.frfO j i e]; exact Nat.le_refl _
  · by_cases e : j = k
    · subst e; exact F.fobN b i hf hl
    · exact F.back hl e

theorem FStep.rels {Λ Λ' : L} {k : Nat} (F : FStep Λ Λ' k) {s : S} (h : RelS Λ s) (hk : k < Λ.nxt) {o : AObj} (ho : RelO Λ' k o) : RelS Λ' { s with sto := aset s.sto k o } := by
  have hkp := F.kp h
  refine ⟨fun j ob hj => ?_, fun b b' j h1 h2 => h.inj b b' j (F.back h1 id) (F.back h2 id), F.new, fun b j hb => ?_, fun j hj => by rw [F.fro]; exact h.frz j (by rw [← F.nxt]; exact hj), fun b b' j i h1 h2 => ?_, fun b j hb => ?_, fun j i hj => ?_⟩
  · simp only at hj
    rw [aget_aset] at hj
    split at hj
    · rename_i e; subst e; simp at hj; subst hj; exact ⟨by rw [F.nxt]; exact hk, ho⟩
    · rename_i hne
      obtain ⟨a1, a2⟩ := h.sto j ob hj
      have hne' : ¬ j = k := fun e => hne e.symm
      exact ⟨by rw [F.nxt]; exact a1, a2.mono hkp a1 (fun b hb => (F.old h hb (by simp) id).2) (by rw [F.fro]) (fun b i hb => (F.old h hb (by simp) hne').2) (fun b i hb => F.back hb hne') (fun i => F.frfO j i hne')⟩
  · rw [F.nxt]
    rcases hb with hb | ⟨n, hb⟩
    · exact h.bnd b j (.inl (F.back hb id))
    · exact h.bnd b j (.inr ⟨n, F.back hb id⟩)
  · by_cases e : j = k
    · subst e; exact F.inj b b' i h1 h2
    · exact h.injF b b' j i (F.back h1 e) (F.back h2 e)
  · rw [F.nxt]
    by_cases e : j = k
    · subst e; exact hk
    · rcases hb with ⟨i, hb⟩ | ⟨i, n, hb⟩
      · exact h.bndF b j (.inl ⟨i, F.back hb e⟩)
      · exact h.bndF b j (.inr ⟨i, n, F.back hb e⟩)
  · rw [F.nxt] at hj
    rw [F.frfO j i (by omega)]; exact h.frzF j i hj
theorem FStep.free {Λ Λ' : L} {k : Nat} (F : FStep Λ Λ' k) {j : Nat} (h : Free Λ j) (hj : j ≠ k) : Free Λ' j :=
  ⟨fun b hb => h.obj b (F.back hb id), fun b n hb => h.arr b n (F.back hb id), by rw [F.fro]; exact h.fro, fun b i hb => h.fob b i (F.back hb hj), fun b i n hb => h.far b i n (F.back hb hj), fun i => by rw [F.frfO j i hj]; exact h.frf i⟩

/-- the cells of a block of that name are written -/
theorem FStep.write {Λ : L} {w' : World} {b k i : Nat} {s : S} (h : RelS Λ s) (g : Wrote Λ.w w' b) (hb : Λ.lab b = .fob k i) (hN : ∀ N, rowSize Λ.w b = some N → rowSize w' b = some N) : FStep Λ { Λ with w := w' } k := by
  have hne : ∀ {c : Nat} {x : Lab}, Λ.lab c = x → (∀ j, x ≠ .fob k j) → c ≠ b := fun h hx e => hx i (by rw [← h, e, hb])
  refine ⟨g.os, g.tape, g.output, by rw [g.size]; exact Nat.le_refl _, rfl, rfl, fun _ => .inl rfl, fun c _ hc => g.old c (fun e => hc (by rw [e, hb]; rfl)), fun c j hl => ⟨hl, fun N hn => ?_⟩, fun c j n _ hl _ => ⟨hl, g.old c (hne hl (by simp))⟩,
    fun c j n _ hl o ho => ⟨by simp [Rd, hl, ho], cell?_heap (g.old c (hne hl (by simp)))⟩, fun _ _ _ => rfl, fun _ => Nat.le_refl _, fun _ _ _ h => h, fun b b' j h1 h2 => h.injF b b' k j h1 h2, fun c hc => h.new c (by rw [← g.size]; exact hc)⟩
  by_cases e : c = b
  · subst e; exact hN N hn
  · unfold rowSize at hn ⊢; rw [g.old c e]; exact hn

def refrf (f : Nat → Nat → Nat) (k i n : Nat) : Nat → Nat → Nat := fun k' i' => if k' = k ∧ i' = i then n else f k' i'
theorem refrf_same {f : Nat → Nat → Nat} {k i n : Nat} : refrf f k i n k i = n := by simp [refrf]
theorem refrf_ne {f : Nat → Nat → Nat} {k i n k' i' : Nat} (h : ¬ (k' = k ∧ i' = i)) : refrf f k i n k' i' = f k' i' := by simp [refrf, h]

/-- the version of a name grows -/
theorem FStep.bump {Λ : L} {k i n : Nat} {s : S} (h : RelS Λ s) (hn : Λ.frf k i < n) : FStep Λ { Λ with frf := refrf Λ.frf k i n } k := by
  refine ⟨rfl, rfl, rfl, Nat.le_refl _, rfl, rfl, fun _ => .inl rfl, fun _ _ _ => rfl, fun _ _ hl => ⟨hl, fun _ h => h⟩, fun _ _ _ _ hl _ => ⟨hl, rfl⟩, fun c j m _ hl o ho => ⟨by simp [Rd, hl, ho], rfl⟩, fun j i' hj => refrf_ne (by omega), fun i' => ?_, fun _ _ _ h => h, fun b b' j h1 h2 => h.injF b b' k j h1 h2, h.new⟩
  by_cases e : i' = i
  · subst e; show Λ.frf k i' ≤ refrf Λ.frf k i' n k i'; rw [refrf_same]; omega
  · show Λ.frf k i' ≤ refrf Λ.frf k i n k i'; rw [refrf_ne (by simp [e])]; exact Nat.le_refl _

/-- a new block of that name -/
theorem FStep.grow {Λ : L} {w' : World} {o : Obj} {k i n : Nat} {s : S} (h : RelS Λ s) (g : Grew Λ.w w' o) (hi : ∀ b, Λ.lab b ≠ .fob k i) (hn : Λ.frf k 0 < n) :
    FStep Λ { Λ with lab := relab Λ.lab Λ.w.heap.size (.fob k i), w := w', frf := refrf Λ.frf k 0 n } k := by
  have hne : ∀ {b : Nat}, b < Λ.w.heap.size → relab Λ.lab Λ.w.heap.size (.fob k i) b = Λ.lab b := fun h => relab_ne (by omega)
  have hlt : ∀ {b : Nat} {x : Lab}, Λ.lab b = x → x ≠ .fix none → b < Λ.w.heap.size := by
    intro b x hl hx
    rcases Nat.lt_or_ge b Λ.w.heap.size with h' | h'
    · exact h'
    · rw [h.new b h'] at hl; exact absurd hl.symm hx
  refine ⟨g.os, g.tape, g.output, by rw [g.size]; omega, rfl, rfl, fun b => ?_, fun b hb _ => g.old hb, fun b j hl => ?_, fun b j m hb hl _ => ⟨by simp only [hne hb]; exact hl, g.old hb⟩, fun b j m hb hl o ho => ⟨by simp [Rd, hne hb, hl, ho], cell?_heap (g.old hb)⟩,
    fun j i' hj => refrf_ne (by omega), fun i' => ?_, fun b j hf => ?_, fun b b' j h1 h2 => ?_, fun b hb => ?_⟩
  · by_cases e : b = Λ.w.heap.size
    · subst e; refine .inr ⟨by simp [relab_same, Lab.ofK], .inr (Nat.le_refl _)⟩
    · exact .inl (relab_ne e)
  · have hb := hlt hl (by simp)
    exact ⟨by simp only [hne hb]; exact hl, fun N hN => by unfold rowSize at hN ⊢; rw [g.old hb]; exact hN⟩
  · by_cases e : i' = 0
    · subst e; show Λ.frf k 0 ≤ refrf Λ.frf k 0 n k 0; rw [refrf_same]; omega
    · show Λ.frf k i' ≤ refrf Λ.frf k 0 n k i'; rw [refrf_ne (by simp [e])]; exact Nat.le_refl _
  · exfalso
    have : refrf Λ.frf k 0 n k 0 = Λ.frf k 0 := hf
    rw [refrf_same] at this; omega
  · simp only at h1 h2
    by_cases e1 : b = Λ.w.heap.size
    · by_cases e2 : b' = Λ.w.heap.size
      · omega
      · rw [relab_ne e2] at h2; subst e1; rw [relab_same] at h1; simp at h1; subst h1; exact absurd h2 (hi b')
    · rw [relab_ne e1] at h1
      by_cases e2 : b' = Λ.w.heap.size
      · subst e2; rw [relab_same] at h2; simp at h2; subst h2; exact absurd h1 (hi b)
      · rw [relab_ne e2] at h2; exact h.injF b b' k j h1 h2
  · simp only at hb ⊢
    rw [g.size] at hb
    rw [relab_ne (by omega)]; exact h.new b (by omega)
end Go.GB


/-
  GbOg: stores into growing arrays and into objects of families, new objects of families.
-/
namespace Go.GB
section
variable {P : Program} {o : Oper} {base : Nat} {st : St}

theorem row_set {Λ : L} {arr : Array Value} {cs vs : List V} {us : List Value} {off : Nat} (hul : us.length = vs.length) (hlc : off + vs.length ≤ cs.length) (hca : cs.length ≤ arr.size)
    (h4 : ∀ (j : Nat) (v : Value) (c : V), arr[j]? = some v → cs[j]? = some c → RelV Λ v c) (hy : ∀ (j : Nat) (v : Value) (c : V), us[j]? = some v → vs[j]? = some c → RelV Λ v c) :
    ∀ (j : Nat) (u : Value) (c : V), (arr.toList.take off ++ us ++ arr.toList.drop (off + us.length)).toArray[j]? = some u → (setAt cs off vs)[j]? = some c → RelV Λ u c := by
  intro j u c hu hc
  rw [setAt_get _ _ _ _ hlc] at hc
  have hu' : (arr.toList.take off ++ us ++ arr.toList.drop (off + us.length))[j]? = some u := by simpa using hu
  have hlt : (arr.toList.take off).length = off := by simp; omega
  split at hc
  · rename_i hj
    rw [List.append_assoc, List.getElem?_append_right (by omega), hlt, List.getElem?_append_left (by omega)] at hu'
    exact hy _ u c hu' hc
  · rename_i hj
    refine h4 j u c ?_ hc
    by_cases hj1 : j < off
    · rw [List.append_assoc, List.getElem?_append_left (by omega), List.getElem?_take, if_pos hj1] at hu'
      simpa using hu'
    · rw [List.getElem?_append_right (by simp; omega), List.getElem?_drop] at hu'
      have : off + us.length + (j - (arr.toList.take off ++ us).length) = j := by simp; omega
      rw [this] at hu'
      simpa using hu'

/-- a store into a block of cells -/
theorem store_run {t : TypeId} {x y : Operand} {y' : Ar} {n off b : Nat} {vs : List V} {a : Act} {C : Ctx} {Λ : L} {arr : Array Value} {e : TypeId} (hr : Rel C Λ st a) (ho : o.op = .store t x y) (hn : szOf P t = some n) (hy : opA y = some y')
    (hv : a.eval x = .pointer (some ⟨b, off, none⟩)) (hvs : (y'.u st).parts = some vs) (hl : vs.length = n) (hok : vs.all V.cellOk = true) (h2 : Λ.w.heap[b]? = some (.cells arr e (0, 0))) (hsz : off + n ≤ arr.size) :
    ∃ us : List Value, us.length = vs.length ∧ (∀ (j : Nat) (v : Value) (c : V), us[j]? = some v → vs[j]? = some c → RelV Λ v c) ∧
      (execOp a.eval o).run P Λ.w = .ok .skip (Λ.w.setRow b (arr.toList.take off ++ us ++ arr.toList.drop (off + us.length)).toArray) := by
  have hy1 := (hr.opu hy).parts hvs
  have hone : ∀ u ∈ (a.eval y).cells.toList, u.oneCell' = true := by
    intro u hu
    obtain ⟨j, hj⟩ := List.mem_iff_getElem?.1 hu
    have hj' : (a.eval y).cells[j]? = some u := by simpa using hj
    have hlt : j < vs.length := by rw [← hy1.1]; exact (Array.getElem?_eq_some_iff.1 hj').1
    have := hy1.2 j u vs[j] hj' (by simp [hlt])
    exact this.oneCell (by rw [List.all_eq_true] at hok; exact hok _ (List.getElem_mem hlt))
  have hs : (a.eval y).cells.size = n := by rw [hy1.1]; exact hl
  refine ⟨(a.eval y).cells.toList, by simpa using hy1.1, fun j v c e1 e2 => hy1.2 j v c (by simpa using e1) e2, ?_⟩
  have hst := run_storeCells_at P b off e (a.eval y).cells.toList 0 arr Λ.w h2 (by simp [hs]; omega) hone
  simp only [Nat.add_zero] at hst
  simp only [execOp, ho, hv]
  simp [Instr.storeAt, Instr.sureAddr, storeVar, szOf_run hn, hs, hst]

theorem rowSize_setRow {w : World} {b : Nat} {arr A : Array Value} {e : TypeId} (h : w.heap[b]? = some (.cells arr e (0, 0))) (hs : A.size = arr.size) : ∀ N, rowSize w b = some N → rowSize (w.setRow b A) b = some N := by
  intro N hN
  unfold rowSize at hN ⊢
  rw [setRow_heap _ _ _ _ _ _ h]
  rw [h] at hN
  simp at hN ⊢; omega

theorem o_stG {t : TypeId} {x y : Operand} {x' y' : Ar} {n k ver off w : Nat} {cs vs : List V} (ho : o.op = .store t x y) (hn : szOf P t = some n) (hx : opA x = some x') (hy : opA y = some y')
    (hxv : x'.u st = .gpt k ver off) (hk : aget st.s.sto k = some (.gro w cs)) (hw : ver = w) (hvs : (y'.u st).parts = some vs) (hl : vs.length = n) (hle : off + n ≤ cs.length) (hok : vs.all V.cellOk = true) :
    OSound P o base st { v := .top, ob := [(k, .gro w (setAt cs off vs))], rd := true } := by
  intro C Λ a next Q hC hr _ _ hnext
  have hx1 := hr.opu hx
  rw [hxv] at hx1
  generalize hv : a.eval x = v at hx1
  cases hx1 with
  | gpt _ hkn _ g3 =>
    have hwv := (hr.s.sto k _ hk).2.1
    obtain ⟨b, rfl, g4⟩ := g3 (hw.trans hwv.symm)
    obtain ⟨arr, e, h2, h3, h4⟩ := hr.s.gCells hk g4
    obtain ⟨us, e1, e2, hrun⟩ := store_run hr ho hn hy hv hvs hl hok h2 (by omega)
    unfold Oper.wp
    rw [hrun]
    obtain ⟨i, hb, hb'⟩ := g4
    have hrow := row_set (Λ := Λ) (off := off) e1 (by omega) h3 h4 e2
    have hA : (arr.toList.take off ++ us ++ arr.toList.drop (off + us.length)).toArray.size = arr.size := by simp; omega
    generalize (arr.toList.take off ++ us ++ arr.toList.drop (off + us.length)).toArray = A at hrow hA ⊢
    have F := FStep.write hr.s (Wrote.setRow Λ.w b A) hb (rowSize_setRow h2 hA)
    have hkp := F.kp hr.s
    refine hnext undef _ hkp rfl (F.rels hr.s hkn ⟨hwv, .inr ⟨b, A, e, ⟨i, hb, hb'⟩, setRow_heap _ _ _ _ _ _ h2, by rw [setAt_length, hA]; exact h3, fun j v c q1 q2 => (hrow j v c q1 q2).mono hkp⟩⟩) .top (fun j hj hn _ => F.free hj ?_)
    rintro rfl; rw [hk] at hn; cases hn

theorem o_stF {t : TypeId} {x y : Operand} {x' y' : Ar} {n k i off : Nat} {os : List (List V)} {cs vs : List V} (ho : o.op = .store t x y) (hn : szOf P t = some n) (hx : opA x = some x') (hy : opA y = some y')
    (hxv : x'.u st = .fpt k i off) (hk : aget st.s.sto k = some (.fobs os)) (hi : os[i]? = some cs) (hvs : (y'.u st).parts = some vs) (hl : vs.length = n) (hle : off + n ≤ cs.length) (hok : vs.all V.cellOk = true) :
    OSound P o base st { v := .top, ob := [(k, .fobs (os.set i (setAt cs off vs)))], rd := true } := by
  intro C Λ a next Q hC hr _ _ hnext
  have hx1 := hr.opu hx
  rw [hxv] at hx1
  generalize hv : a.eval x = v at hx1
  cases hx1 with
  | @fpt b _ _ _ hkn hb =>
    obtain ⟨arr, e, h2, h3, h4⟩ := hr.s.fCells hk hi hb
    obtain ⟨us, e1, e2, hrun⟩ := store_run hr ho hn hy hv hvs hl hok h2 (by omega)
    unfold Oper.wp
    rw [hrun]
    have hrow := row_set (Λ := Λ) (off := off) e1 (by omega) (by omega) h4 e2
    have hA : (arr.toList.take off ++ us ++ arr.toList.drop (off + us.length)).toArray.size = arr.size := by simp; omega
    generalize (arr.toList.take off ++ us ++ arr.toList.drop (off + us.length)).toArray = A at hrow hA ⊢
    have F := FStep.write hr.s (Wrote.setRow Λ.w b A) hb (rowSize_setRow h2 hA)
    have hkp := F.kp hr.s
    obtain ⟨g1, g2⟩ := (hr.s.sto k _ hk).2
    have hil : i < os.length := (List.getElem?_eq_some_iff.1 hi).1
    refine hnext undef _ hkp rfl (F.rels hr.s hkn ⟨fun b' i' h' => by rw [List.length_set]; exact g1 b' i' h', fun i' cs' h' => ?_⟩) .top (fun j hj hn _ => F.free hj ?_)
    · rw [List.getElem?_set] at h'
      split at h'
      · rename_i e'; subst e'
        simp at h'; obtain ⟨_, rfl⟩ := h'
        exact ⟨b, A, e, hb, setRow_heap _ _ _ _ _ _ h2, by rw [setAt_length, hA]; exact h3, fun j v c q1 q2 => (hrow j v c q1 q2).mono hkp⟩
      · rename_i e'
        obtain ⟨b', arr', et, f1, f2, f3, f4⟩ := g2 i' cs' h'
        refine ⟨b', arr', et, f1, ?_, f3, fun j v c q1 q2 => (f4 j v c q1 q2).mono hkp⟩
        have : b' ≠ b := by rintro rfl; rw [hb] at f1; simp at f1; exact e' f1
        rw [← f2]; exact setRow_other _ _ _ _ this
    · rintro rfl; rw [hk] at hn; cases hn

/-- a new object of a family -/
theorem new_fob {Λ : L} {s : S} {w' : World} {arr : Array Value} {e : TypeId} {k : Nat} {os : List (List V)} {vs : List V} (h : RelS Λ s) (g : Grew Λ.w w' (.cells arr e)) (hk : aget s.sto k = some (.fobs os)) (hs : arr.size = vs.length)
    (hv : ∀ (Λ' : L), Kp Λ Λ' → ∀ (j : Nat) (v : Value) (c : V), arr[j]? = some v → vs[j]? = some c → RelV Λ' v c) :
    ∃ Λ', Λ'.w = w' ∧ Λ'.nxt = Λ.nxt ∧ Kp Λ Λ' ∧ RelS Λ' { s with sto := aset s.sto k (.fobs (os ++ [vs])) } ∧ RelV Λ' (.pointer (some ⟨Λ.w.heap.size, 0, none⟩)) (.fpt k os.length 0) ∧ ∀ j, Free Λ j → j ≠ k → Free Λ' j := by
  obtain ⟨hkn, g1, g2⟩ := h.sto k _ hk
  have F := FStep.grow (i := os.length) (n := Λ.frf k 0 + 1) h g (fun b hb => by have := g1 b _ hb; omega) (by omega)
  have hkp := F.kp h
  refine ⟨{ Λ with lab := relab Λ.lab Λ.w.heap.size (.fob k os.length), w := w', frf := refrf Λ.frf k 0 (Λ.frf k 0 + 1) }, rfl, rfl, hkp, F.rels (o := .fobs (os ++ [vs])) h hkn ⟨fun b i hb => ?_, fun i cs hi => ?_⟩, .fpt hkn (by simp [relab_same]), fun j hj hne => F.free hj hne⟩
  · simp only at hb
    by_cases e : b = Λ.w.heap.size
    · subst e; rw [relab_same] at hb; simp at hb; simp; omega
    · rw [relab_ne e] at hb; have := g1 b i hb; simp; omega
  · by_cases hi' : i < os.length
    · rw [List.getElem?_append_left hi'] at hi
      obtain ⟨b', arr', et, f1, f2, f3, f4⟩ := g2 i cs hi
      have hb' : b' < Λ.w.heap.size := heap_lt f2
      exact ⟨b', arr', et, by simp only; rw [relab_ne (by omega)]; exact f1, by rw [g.old hb']; exact f2, f3, fun j v c q1 q2 => (f4 j v c q1 q2).mono hkp⟩
    · have hii : i = os.length := by
        have := (List.getElem?_eq_some_iff.1 hi).1
        simp at this; omega
      subst hii
      rw [List.getElem?_append_right (Nat.le_refl _)] at hi
      simp at hi; subst hi
      exact ⟨Λ.w.heap.size, arr, e, by simp [relab_same], g.top, hs, hv _ hkp⟩

theorem o_boxF {t : TypeId} {x : Operand} {x' : Ar} {k : Nat} {os : List (List V)} {vs : List V} (ho : o.op = .box t x) (hx : opA x = some x') (hvs : (x'.u st).parts = some vs) (hk : aget st.s.sto k = some (.fobs os)) :
    OSound P o base st { v := .fpt k os.length 0, ob := [(k, .fobs (os ++ [vs]))], rd := true } := by
  intro C Λ a next Q hC hr hle hfree hnext
  have hx1 := (hr.opu hx).parts hvs
  have hrun : (execOp a.eval o).run P Λ.w = .ok (.value (.pointer (some ⟨Λ.w.heap.size, 0, none⟩))) (Λ.w.alloc (.cells (a.eval x).cells t)) := by
    simp only [execOp, ho]
    simp [Instr.box, newVar, newRow]
  unfold Oper.wp
  rw [hrun]
  obtain ⟨Λ', e1, e2, e3, e4, e5, e6⟩ := new_fob hr.s (Grew.alloc Λ.w (.cells (a.eval x).cells t)) hk hx1.1 (fun Λ' hkp j v c q1 q2 => (hx1.2 j v c q1 q2).mono hkp)
  rw [← e1]
  refine hnext _ Λ' e3 e2 e4 e5 (fun j hj hn _ => e6 j hj ?_)
  rintro rfl; rw [hk] at hn; cases hn

theorem o_allocF {t : TypeId} {zs : List V} {k : Nat} {os : List (List V)} (ho : o.op = .alloc t) (hz : zerosOf P t = some zs) (hk : aget st.s.sto k = some (.fobs os)) :
    OSound P o base st { v := .fpt k os.length 0, ob := [(k, .fobs (os ++ [zs]))], rd := true } := by
  intro C Λ a next Q hC hr hle hfree hnext
  obtain ⟨i, z, hi, hz1, hlen, hok⟩ := zerosOf_spec hz
  have hrun : (execOp a.eval o).run P Λ.w = .ok (.value (.pointer (some ⟨Λ.w.heap.size, 0, none⟩))) (Λ.w.alloc (.cells z.cells t)) := by
    simp only [execOp, ho]
    simp [Instr.alloc, zeroValue, typeInfo, hi, hz1, newVar, newRow]
  unfold Oper.wp
  rw [hrun]
  have hrc := fun Λ' : L => zeros_relC (Λ := Λ') hok
  obtain ⟨Λ', e1, e2, e3, e4, e5, e6⟩ := new_fob hr.s (Grew.alloc Λ.w (.cells z.cells t)) hk (hrc Λ).1 (fun Λ' hkp j v c q1 q2 => (hrc Λ').2 j v c q1 q2)
  rw [← e1]
  refine hnext _ Λ' e3 e2 e4 e5 (fun j hj hn _ => e6 j hj ?_)
  rintro rfl; rw [hk] at hn; cases hn
end
end Go.GB


/-
  GbOh: appends to growing arrays that may be changed.
-/
namespace Go.GB
section
variable {P : Program} {o : Oper} {base : Nat} {st : St}

/-- what is appended, as the world has it -/
theorem addV_src {sz : Nat} (h0 : 0 < sz) {C : Ctx} {Λ : L} {a : Act} (hr : Rel C Λ st a) {y : Operand} {y' : Ar} (hy : opA y = some y') {vs : List V} {m : Nat} (h : addV st sz (y'.u st) = some (vs, m)) :
    vs.length = m * sz ∧ ((m = 0 ∧ ∃ ad c, a.eval y = .slice ad 0 c) ∨ (0 < m ∧ ∃ (b off cap : Nat) (us : List Value), a.eval y = .slice (some ⟨b, off, none⟩) m cap ∧ m ≤ cap ∧ us.length = m * sz ∧
      (∀ (j : Nat) (u : Value), us[j]? = some u → Λ.w.cell? ⟨b, off + j, none⟩ = some u) ∧ ∀ (j : Nat) (u : Value) (c : V), us[j]? = some u → vs[j]? = some c → RelV Λ u c)) := by
  have hy1 := hr.opu hy
  unfold addV at h
  have blk : ∀ {b off len cap : Nat} {arr : Array Value} {e : TypeId} {cs : List V}, a.eval y = .slice (some ⟨b, off, none⟩) len cap → len ≤ cap → Λ.w.heap[b]? = some (.cells arr e (0, 0)) → off + len * sz ≤ cs.length → cs.length ≤ arr.size →
      (∀ (j : Nat) (v : Value) (c : V), arr[j]? = some v → cs[j]? = some c → RelV Λ v c) → vs = (cs.drop off).take (len * sz) → m = len →
      vs.length = m * sz ∧ ((m = 0 ∧ ∃ ad c, a.eval y = .slice ad 0 c) ∨ (0 < m ∧ ∃ (b off cap : Nat) (us : List Value), a.eval y = .slice (some ⟨b, off, none⟩) m cap ∧ m ≤ cap ∧ us.length = m * sz ∧
      (∀ (j : Nat) (u : Value), us[j]? = some u → Λ.w.cell? ⟨b, off + j, none⟩ = some u) ∧ ∀ (j : Nat) (u : Value) (c : V), us[j]? = some u → vs[j]? = some c → RelV Λ u c)) := by
    intro b off len cap arr e cs he hcap h2 hle hca h4 hvs hm
    subst hvs hm
    refine ⟨by simp; omega, ?_⟩
    by_cases hm0 : m = 0
    · subst hm0; exact .inl ⟨rfl, _, _, he⟩
    · refine .inr ⟨by omega, b, off, cap, (arr.toList.drop off).take (m * sz), he, hcap, by simp; omega, fun j u hu => ?_, fun j u c hu hc => ?_⟩
      · rw [List.getElem?_take] at hu
        split at hu
        · rw [List.getElem?_drop] at hu; rw [cell_of_row Λ.w b _ arr e _ h2]; simpa using hu
        · cases hu
      · rw [List.getElem?_take] at hu hc
        split at hc
        · rename_i hj
          rw [if_pos hj] at hu
          rw [List.getElem?_drop] at hu hc
          exact h4 _ u c (by simpa using hu) hc
        · cases hc
  split at h
  · rename_i ys hc1
    split at h
    · rename_i hl
      obtain ⟨h1, h2⟩ := Prod.mk.inj (Option.some.inj h); subst h1 h2
      have hlY := allLen_at hl
      have hfl := flat_len ys hlY
      refine ⟨by rw [List.length_map]; exact hfl, ?_⟩
      have hrep := hy1.cell1 hc1
      by_cases hm0 : ys.length = 0
      · refine .inl ⟨hm0, ?_⟩
        have : ys = [] := List.length_eq_zero_iff.1 hm0
        subst this
        generalize a.eval y = u at hrep
        cases hrep with
        | lst ad cap _ _ _ _ _ _ _ _ _ _ _ => exact ⟨ad, cap, rfl⟩
      · obtain ⟨b, off, cap, us, e1, e2, e3, e4, e5⟩ := hrep.cells hlY (by omega) h0
        refine .inr ⟨by omega, b, off, cap, us, e1, e2, e3, fun j u hu => (e4 j u hu).1, fun j u c hu hc => ?_⟩
        rw [List.getElem?_map, Option.map_eq_some_iff] at hc
        obtain ⟨x, hx, rfl⟩ := hc
        exact .t (e5 j u x hu hx)
    · cases h
  · split at h
    · rename_i k off len s hyv
      split at h
      · rename_i cs hk
        split at h
        · rename_i hc
          simp at h; obtain ⟨h1, h2⟩ := h
          rw [hyv] at hy1
          generalize he : a.eval y = u at hy1
          cases hy1 with
          | slc hkn hcap hb =>
            obtain ⟨arr, e, g2, g3, g4⟩ := hr.s.objCells hk hb
            exact he ▸ blk he hcap g2 hc.2 (by omega) g4 h1.symm h2.symm
        · cases h
      · cases h
    · rename_i k ver off len s hyv
      split at h
      · rename_i w cs hk
        split at h
        · rename_i hc
          simp at h; obtain ⟨h1, h2⟩ := h
          rw [hyv] at hy1
          generalize he : a.eval y = u at hy1
          cases hy1 with
          | gsl _ hkn _ hb =>
            rcases hb (hc.2.1.trans (hr.s.sto k _ hk).2.1.symm) with ⟨⟨ad, rfl⟩, hl0⟩ | ⟨b, cap, N, rfl, hcap, hcur, hN, hN'⟩
            · subst hl0
              refine ⟨by rw [← h1, ← h2]; simp, .inl ⟨h2.symm, ad, 0, rfl⟩⟩
            · obtain ⟨arr, e, g2, g3, g4⟩ := hr.s.gCells hk hcur
              exact he ▸ blk he hcap g2 hc.2.2 g3 g4 h1.symm h2.symm
        · cases h
      · cases h
    · cases h

/-- the growing array of a name after a growth into a new block -/
theorem grow_new {Λ : L} {s : S} {w' : World} {arr : Array Value} {e : TypeId} {k i ver sz n cap : Nat} {cs : List V} (h : RelS Λ s) (g : Grew Λ.w w' (.cells arr e)) (hk : k < Λ.nxt) (hv : Λ.frf k 0 < ver) (hi : ∀ b j, Λ.lab b = .fob k j → j < i)
    (hle : cs.length ≤ arr.size) (hn : n ≤ cap) (hcap : arr.size = cap * sz) (hrel : ∀ (Λ' : L), Kp Λ Λ' → ∀ (j : Nat) (v : Value) (c : V), arr[j]? = some v → cs[j]? = some c → RelV Λ' v c) :
    ∃ Λ', Λ'.w = w' ∧ Λ'.nxt = Λ.nxt ∧ Kp Λ Λ' ∧ RelS Λ' { s with sto := aset s.sto k (.gro ver cs) } ∧ RelV Λ' (.slice (some ⟨Λ.w.heap.size, 0, none⟩) n cap) (.gsl k ver 0 n sz) ∧ ∀ j, Free Λ j → j ≠ k → Free Λ' j := by
  have F := FStep.grow (i := i) (n := ver) h g (fun b hb => by have := hi b _ hb; omega) hv
  have hkp := F.kp h
  have hcur : GCur (relab Λ.lab Λ.w.heap.size (.fob k i)) k Λ.w.heap.size := by
    refine ⟨i, by simp [relab_same], fun b' j hb => ?_⟩
    by_cases e : b' = Λ.w.heap.size
    · subst e; rw [relab_same] at hb; simp at hb; omega
    · rw [relab_ne e] at hb; have := hi b' j hb; omega
  refine ⟨{ Λ with lab := relab Λ.lab Λ.w.heap.size (.fob k i), w := w', frf := refrf Λ.frf k 0 ver }, rfl, rfl, hkp, F.rels (o := .gro ver cs) h hk ⟨by simp [refrf], .inr ⟨Λ.w.heap.size, arr, e, hcur, g.top, hle, hrel _ hkp⟩⟩, .gsl ⟨_, _, _, rfl⟩ hk ⟨fun h0 => absurd h0 (by omega), by simp [refrf]⟩ (fun _ => .inr ⟨Λ.w.heap.size, cap, arr.size, rfl, hn, hcur, by simp [rowSize, g.top], by simp [hcap]⟩), fun j hj hne => F.free hj hne⟩

/-- the growing array of a name after a growth in its block, or none -/
theorem grow_same {Λ : L} {s : S} {w' : World} {arr A : Array Value} {e : TypeId} {k b ver sz n cap : Nat} {cs cs0 : List V} {w0 : Nat} (h : RelS Λ s) (hks : aget s.sto k = some (.gro w0 cs0)) (hv : w0 < ver) (hcur : GCur Λ.lab k b) (hb : Λ.w.heap[b]? = some (.cells arr e (0, 0)))
    (hw : w' = Λ.w.setRow b A) (hA : A.size = arr.size) (hle : cs.length ≤ A.size) (hn : n ≤ cap) (hcap : A.size = cap * sz) (hrel : ∀ (j : Nat) (v : Value) (c : V), A[j]? = some v → cs[j]? = some c → RelV Λ v c) :
    ∃ Λ', Λ'.w = w' ∧ Λ'.nxt = Λ.nxt ∧ Kp Λ Λ' ∧ RelS Λ' { s with sto := aset s.sto k (.gro ver cs) } ∧ RelV Λ' (.slice (some ⟨b, 0, none⟩) n cap) (.gsl k ver 0 n sz) ∧ ∀ j, Free Λ j → j ≠ k → Free Λ' j := by
  subst hw
  obtain ⟨hk, hv0, _⟩ := h.sto k _ hks
  obtain ⟨i, hi, hi'⟩ := hcur
  have F1 := FStep.write h (Wrote.setRow Λ.w b A) hi (rowSize_setRow hb hA)
  have k1 := F1.kp h
  have hh := setRow_heap Λ.w b arr A e (0, 0) hb
  have r1 := F1.rels (o := .gro w0 cs) h hk ⟨hv0, .inr ⟨b, A, e, ⟨i, hi, hi'⟩, hh, hle, fun j v c q1 q2 => (hrel j v c q1 q2).mono k1⟩⟩
  have F2 := FStep.bump (k := k) (i := 0) (n := ver) r1 (by show Λ.frf k 0 < ver; omega)
  have k2 := F2.kp r1
  have r2 := F2.rels (o := .gro ver cs) r1 hk ⟨by simp [refrf], .inr ⟨b, A, e, ⟨i, hi, hi'⟩, hh, hle, fun j v c q1 q2 => ((hrel j v c q1 q2).mono k1).mono k2⟩⟩
  refine ⟨{ Λ with w := Λ.w.setRow b A, frf := refrf Λ.frf k 0 ver }, rfl, rfl, Kp.trans k1 k2, ?_, .gsl ⟨_, _, _, rfl⟩ hk ⟨fun h0 => absurd h0 (by omega), by simp [refrf]⟩ (fun _ => .inr ⟨b, cap, A.size, rfl, hn, ⟨i, hi, hi'⟩, ?_, by simp [hcap]⟩), fun j hj hne => F2.free (F1.free hj hne) hne⟩
  · have e2 : aset (aset s.sto k (.gro w0 cs)) k (.gro ver cs) = aset s.sto k (.gro ver cs) := by
      generalize s.sto = l
      induction l with
      | nil => simp [aset]
      | cons x r ih =>
        obtain ⟨j, x⟩ := x
        by_cases hj : j = k
        · subst hj; simp [aset]
        · simp [aset, hj, ih]
    rw [← e2]; exact r2
  · show rowSize (Λ.w.setRow b A) b = some A.size
    simp [rowSize, hh]
end
end Go.GB


/-
  GbOi: appends to growing arrays that may be changed: the operations.
-/
namespace Go.GB
section
variable {P : Program} {o : Oper} {base : Nat} {st : St}

/-- what is appended: the value, and its cells -/
def Src (Λ : L) (sz : Nat) (u : Value) (vs : List V) (m : Nat) : Prop :=
  vs.length = m * sz ∧ ((m = 0 ∧ ∃ ad c, u = .slice ad 0 c) ∨ (0 < m ∧ ∃ (b off cap : Nat) (us : List Value), u = .slice (some ⟨b, off, none⟩) m cap ∧ m ≤ cap ∧ us.length = m * sz ∧
      (∀ (j : Nat) (v : Value), us[j]? = some v → Λ.w.cell? ⟨b, off + j, none⟩ = some v) ∧ ∀ (j : Nat) (v : Value) (c : V), us[j]? = some v → vs[j]? = some c → RelV Λ v c))

/-- a nil slice grows -/
theorem app_gnil {sz bytes : Nat} {x' y' : Ar} (A : AppOp P o sz bytes x' y') {C : Ctx} {Λ : L} {a : Act} (hr : Rel C Λ st a) {k ver m : Nat} {vs : List V} (hk : k < Λ.nxt) (hv : Λ.frf k 0 < ver) (hno : (∀ b i, Λ.lab b ≠ .fob k i) ∨ ∃ (b : Nat) (arr : Array Value) (e : TypeId), GCur Λ.lab k b ∧ Λ.w.heap[b]? = some (.cells arr e (0, 0))) {ad : Option Addr} (hnil : a.eval A.x = .slice ad 0 0)
    (hs : Src Λ sz (a.eval A.y) vs m) (hroom : m * bytes ≤ 140737488355328) (h63 : m ≤ 9223372036854775807) :
    ∃ v Λ', (execOp a.eval o).run P Λ.w = .ok (.value v) Λ'.w ∧ Kp Λ Λ' ∧ Λ'.nxt = Λ.nxt ∧ RelS Λ' { st.s with sto := aset st.s.sto k (.gro ver vs) } ∧ RelV Λ' v (.gsl k ver 0 m sz) ∧ ∀ j, Free Λ j → j ≠ k → Free Λ' j := by
  obtain ⟨hl, ⟨hm, a', c, hy⟩ | ⟨hm, b, off, cap, us, hy, hcap, hul, huc, hur⟩⟩ := hs
  · subst hm
    have hvs : vs = [] := List.length_eq_zero_iff.1 (by omega)
    subst hvs
    have hrun : (execOp a.eval o).run P Λ.w = .ok (.value (.slice ad 0 0)) Λ.w := by
      refine run_op_append A.ho rfl A.ha A.hat ?_
      rw [hnil, hy]
      exact run_append_zero A.ht A.hi ad 0 0 (Nat.le_refl _) a' c Λ.w
    have F := FStep.bump (k := k) (i := 0) (n := ver) hr.s hv
    have hkp := F.kp hr.s
    refine ⟨_, { Λ with frf := refrf Λ.frf k 0 ver }, hrun, hkp, rfl, F.rels (o := .gro ver []) hr.s hk ⟨by simp [refrf], ?_⟩, .gsl ⟨_, _, _, rfl⟩ hk ⟨fun h0 => absurd h0 (by omega), by simp [refrf]⟩ (fun _ => .inl ⟨⟨_, rfl⟩, rfl⟩), fun j hj hne => F.free hj hne⟩
    rcases hno with hno | ⟨b, arr, e, g1, g2⟩
    · exact .inl ⟨rfl, hno⟩
    · exact .inr ⟨b, arr, e, g1, g2, by simp, by simp⟩
  · have hrun' : (Builtin.append_ #[A.t, A.t] o.type #[.slice ad 0 0, .slice (some ⟨b, off, none⟩) m cap]).run P Λ.w =
        .ok (.slice (some ⟨Λ.w.heap.size, 0, none⟩) m (grownCap Λ.w m 0 A.e)) (Λ.w.drew.alloc (.cells (us.toArray ++ Builtin.zeroCells A.z.cells (grownCap Λ.w m 0 A.e - m)) A.e)) := by
      cases ad with
      | none => exact run_append_nil (P := P) Λ.w A.t o.type A.e A.inf A.z A.ht A.hi A.hz ⟨b, off, none⟩ m cap us (by rw [A.hs]; exact hul) (fun j u hu => by rw [add_mk]; exact huc j u hu) (by omega) (by omega) (by rw [A.hb]; omega)
      | some ad =>
        have := run_append_grow (P := P) Λ.w A.t o.type A.e A.inf A.z A.ht A.hi A.hz ad 0 0 [] (by simp) (by simp) ⟨b, off, none⟩ m cap us (by rw [A.hs]; exact hul) (fun j u hu => by rw [add_mk]; exact huc j u hu) (by omega) (by omega) (by rw [Nat.zero_add, nextslicecap_zero (by omega), A.hb]; omega)
        simpa only [Nat.zero_add, List.append_toArray, List.nil_append] using this
    have hrun := run_op_append (x := A.x) (y := A.y) (a := a) A.ho rfl A.ha A.hat (by rw [hnil, hy]; exact hrun')
    have hge := grownCap_ge Λ.w m 0 A.e
    obtain ⟨i0, hi0⟩ : ∃ i0, ∀ b j, Λ.lab b = .fob k j → j < i0 := by
      rcases hno with hno | ⟨b, _, _, ⟨i, g1, g2⟩, _⟩
      · exact ⟨0, fun b j hb => absurd hb (hno b j)⟩
      · exact ⟨i + 1, fun b' j hb => by have := g2 b' j hb; omega⟩
    obtain ⟨Λ', e1, e2, e3, e4, e5, e6⟩ := grow_new (i := i0) (ver := ver) (sz := sz) (n := m) (cap := grownCap Λ.w m 0 A.e) (cs := vs) hr.s (Grew.drewAlloc Λ.w (.cells (us.toArray ++ Builtin.zeroCells A.z.cells (grownCap Λ.w m 0 A.e - m)) A.e)) hk hv hi0
      (by simp [hul, hl]) hge (by simp only [Array.size_append, List.size_toArray, size_zeroCells, A.hzs, hul]; rw [← Nat.add_mul]; congr 1; omega) (fun Λ' hkp j v c q1 q2 => by
        have hj := (List.getElem?_eq_some_iff.1 q2).1
        rw [Array.getElem?_append_left (by simp; omega)] at q1
        exact (hur j v c (by simpa using q1) q2).mono hkp)
    exact ⟨_, Λ', by rw [hrun, e1], e3, e2, e4, e5, e6⟩

theorem o_appN {sz bytes : Nat} {x' y' : Ar} {vs : List V} {m : Nat} (A : AppOp P o sz bytes x' y') (hxv : x'.u st = .nils) (hyv : addV st sz (y'.u st) = some (vs, m)) (hroom : m * bytes ≤ 140737488355328) (h63 : m ≤ 9223372036854775807) :
    OSound P o base st { v := .gsl base 1 0 m sz, ob := [(base, .gro 1 vs)], n := 1, rd := true } := by
  intro C Λ a next Q hC hr hle hfree hnext
  have hx1 := hr.opu A.hx
  rw [hxv] at hx1
  obtain ⟨ad, hnil⟩ : ∃ ad, a.eval A.x = .slice ad 0 0 := by generalize a.eval A.x = u at hx1; cases hx1; exact ⟨_, rfl⟩
  obtain ⟨hb1, hb2, hb3⟩ := hfree base (Nat.le_refl _) (by simp)
  obtain ⟨v, Λ', h1, h2, h3, h4, h5, h6⟩ := app_gnil (ver := 1) A hr hb1 (by rw [hb2.frf 0]; omega) (.inl hb2.fob) hnil (addV_src A.h0 hr A.hy hyv) hroom h63
  unfold Oper.wp
  rw [h1]
  exact hnext v Λ' h2 h3 h4 h5 (fun k hk _ hlt => h6 k hk (by simp at hlt; omega))

theorem o_appG {sz bytes : Nat} {x' y' : Ar} {k ver len w : Nat} {cs vs : List V} {m : Nat} (A : AppOp P o sz bytes x' y') (hxv : x'.u st = .gsl k ver 0 len sz) (hk : aget st.s.sto k = some (.gro w cs)) (hw : ver = w) (hcl : cs.length = len * sz)
    (hyv : addV st sz (y'.u st) = some (vs, m)) (hok : vs.all V.cellOk = true) (hroom : (len + m) * bytes ≤ 140737488355328) (h63 : len + m ≤ 9223372036854775807) :
    OSound P o base st { v := .gsl k (w + 1) 0 (len + m) sz, ob := [(k, .gro (w + 1) (cs ++ vs))], rd := true } := by
  intro C Λ a next Q hC hr hle hfree hnext
  have hx1 := hr.opu A.hx
  rw [hxv] at hx1
  obtain ⟨hkn, hwv, hcur0⟩ := hr.s.sto k _ hk
  have hsrc := addV_src A.h0 hr A.hy hyv
  have hkj : ∀ j, aget st.s.sto j = none → j ≠ k := by rintro j hn rfl; rw [hk] at hn; cases hn
  unfold Oper.wp
  generalize hxe : a.eval A.x = vx at hx1
  cases hx1 with
  | gsl _ _ _ hb =>
  rcases hb (hw.trans hwv.symm) with ⟨⟨ad, rfl⟩, hl0⟩ | ⟨b, cap, N, rfl, hcap, hcur, hN, hN'⟩
  · subst hl0
    have hcs : cs = [] := List.length_eq_zero_iff.1 (by omega)
    subst hcs
    have hno : (∀ b i, Λ.lab b ≠ .fob k i) ∨ ∃ (b : Nat) (arr : Array Value) (e : TypeId), GCur Λ.lab k b ∧ Λ.w.heap[b]? = some (.cells arr e (0, 0)) := by
      rcases hcur0 with ⟨_, g⟩ | ⟨b, arr, e, g1, g2, _⟩
      · exact .inl g
      · exact .inr ⟨b, arr, e, g1, g2⟩
    obtain ⟨v, Λ', h1, h2, h3, h4, h5, h6⟩ := app_gnil (ver := w + 1) A hr hkn (by omega) hno hxe hsrc (by simpa using hroom) (by simpa using h63)
    rw [h1]
    exact hnext v Λ' h2 h3 (by simpa [S.app, asets] using h4) (by simpa using h5) (fun j hj hn _ => h6 j hj (hkj j hn))
  · obtain ⟨arr, e', hhb, hac, hold⟩ := hr.s.gCells hk hcur
    have hNa : N = arr.size := by simpa [rowSize, hhb] using hN.symm
    have hac2 : arr.size = cap * sz := by omega
    obtain ⟨hl, ⟨hm, a', c, hy⟩ | ⟨hm, yb, yoff, ycap, us, hy, hyc, hul, huc, hur⟩⟩ := hsrc
    · subst hm
      have hvs : vs = [] := List.length_eq_zero_iff.1 (by omega)
      subst hvs
      have hrun : (execOp a.eval o).run P Λ.w = .ok (.value (.slice (some ⟨b, 0, none⟩) len cap)) Λ.w := by
        refine run_op_append A.ho rfl A.ha A.hat ?_
        rw [hxe, hy]
        exact run_append_zero A.ht A.hi _ _ _ hcap a' c Λ.w
      rw [hrun]
      have F := FStep.bump (k := k) (i := 0) (n := w + 1) hr.s (by omega)
      have hkp := F.kp hr.s
      refine hnext _ { Λ with frf := refrf Λ.frf k 0 (w + 1) } hkp rfl (F.rels (o := .gro (w + 1) (cs ++ [])) hr.s hkn ⟨by simp [refrf], .inr ⟨b, arr, e', hcur, hhb, by simpa using hac, fun j v c q1 q2 => (hold j v c q1 (by simpa using q2)).mono hkp⟩⟩) (.gsl ⟨_, _, _, rfl⟩ hkn ⟨fun h0 => absurd h0 (by omega), by simp [refrf]⟩ (fun _ => .inr ⟨b, cap, N, rfl, hcap, hcur, hN, hN'⟩)) (fun j hj hn _ => F.free hj (hkj j hn))
    · have hone : ∀ u ∈ us, u.oneCell' = true := by
        intro u hu
        obtain ⟨j, hj⟩ := List.mem_iff_getElem?.1 hu
        have hjl := (List.getElem?_eq_some_iff.1 hj).1
        have hjv : j < vs.length := by omega
        exact (hur j u vs[j] hj (by simp [hjv])).oneCell (by rw [List.all_eq_true] at hok; exact hok _ (List.getElem_mem hjv))
      by_cases hrm : len + m ≤ cap
      · have hfit : len * A.inf.size + us.length ≤ arr.size := by
          rw [A.hs, hul, hac2, ← Nat.add_mul]; exact Nat.mul_le_mul_right _ hrm
        have hrun' := run_append_room' (P := P) (ty := o.type) Λ.w A.ht A.hi b len cap arr hhb ⟨yb, yoff, none⟩ m ycap us (by rw [A.hs]; exact hul) (fun j u hu => by rw [add_mk]; exact huc j u hu) hone hrm hfit
        have hrun := run_op_append (x := A.x) (y := A.y) (a := a) A.ho rfl A.ha A.hat (by rw [hxe, hy]; exact hrun')
        rw [hrun]
        rw [A.hs] at hfit ⊢
        have hsz2 : (arr.toList.take (len * sz) ++ us ++ arr.toList.drop (len * sz + us.length)).toArray.size = arr.size := by simp; omega
        have hget : ∀ (j : Nat) (v : Value) (c : V), (arr.toList.take (len * sz) ++ us ++ arr.toList.drop (len * sz + us.length)).toArray[j]? = some v → (cs ++ vs)[j]? = some c → RelV Λ v c := by
          intro j v c q1 q2
          have hlt : (arr.toList.take (len * sz)).length = len * sz := by simp; omega
          have q1' : (arr.toList.take (len * sz) ++ us ++ arr.toList.drop (len * sz + us.length))[j]? = some v := by simpa using q1
          by_cases hj : j < cs.length
          · rw [List.getElem?_append_left hj] at q2
            rw [List.append_assoc, List.getElem?_append_left (by omega), List.getElem?_take, if_pos (by omega)] at q1'
            exact hold j v c (by simpa using q1') q2
          · rw [List.getElem?_append_right (by omega)] at q2
            have hjv := (List.getElem?_eq_some_iff.1 q2).1
            rw [List.append_assoc, List.getElem?_append_right (by omega), List.getElem?_append_left (by omega), hlt, ← hcl] at q1'
            exact hur _ v c q1' q2
        generalize (arr.toList.take (len * sz) ++ us ++ arr.toList.drop (len * sz + us.length)).toArray = A2 at *
        obtain ⟨Λ', e1, e2, e3, e4, e5, e6⟩ := grow_same (ver := w + 1) (sz := sz) (n := len + m) (cap := cap) (cs := cs ++ vs) hr.s hk (by omega) hcur hhb rfl hsz2 (by rw [hsz2, hac2, List.length_append, hl, hcl, ← Nat.add_mul]; exact Nat.mul_le_mul_right _ hrm) hrm (by omega) hget
        rw [← e1]
        exact hnext _ Λ' e3 e2 (by simpa [S.app, asets] using e4) e5 (fun j hj hn _ => e6 j hj (hkj j hn))
      · have hrun' := run_append_grow (P := P) Λ.w A.t o.type A.e A.inf A.z A.ht A.hi A.hz ⟨b, 0, none⟩ len cap (arr.toList.take (len * sz)) (by have := Nat.mul_le_mul_right sz hcap; rw [A.hs]; simp; omega)
          (fun j u hu => by
            rw [add_mk, cell_of_row Λ.w b _ arr e' _ hhb, Nat.zero_add]
            rw [List.getElem?_take] at hu
            split at hu
            · simpa using hu
            · cases hu) ⟨yb, yoff, none⟩ m ycap us (by rw [A.hs]; exact hul) (fun j u hu => by rw [add_mk]; exact huc j u hu) (by omega) (by omega)
          (by rw [A.hb]; exact growslice_fits (by omega) hroom)
        have hrun := run_op_append (x := A.x) (y := A.y) (a := a) A.ho rfl A.ha A.hat (by rw [hxe, hy]; exact hrun')
        rw [hrun]
        have hge := grownCap_ge Λ.w (len + m) cap A.e
        obtain ⟨i, hi1, hi2⟩ := hcur
        have htl : (arr.toList.take (len * sz)).length = len * sz := by have := Nat.mul_le_mul_right sz hcap; simp; omega
        obtain ⟨Λ', e1, e2, e3, e4, e5, e6⟩ := grow_new (i := i + 1) (ver := w + 1) (sz := sz) (n := len + m) (cap := grownCap Λ.w (len + m) cap A.e) (cs := cs ++ vs) hr.s (Grew.drewAlloc Λ.w (.cells ((arr.toList.take (len * sz)).toArray ++ us.toArray ++ Builtin.zeroCells A.z.cells (grownCap Λ.w (len + m) cap A.e - (len + m))) A.e)) hkn (by omega) (fun b' j hb => by have := hi2 b' j hb; omega)
          (by simp only [Array.size_append, List.size_toArray, htl, hul, List.length_append, hcl, hl]; omega) hge (by simp only [Array.size_append, List.size_toArray, size_zeroCells, A.hzs, hul, htl]; rw [← Nat.add_mul, ← Nat.add_mul]; congr 1; omega) (fun Λ' hkp j v c q1 q2 => by
            have hj := (List.getElem?_eq_some_iff.1 q2).1
            rw [List.length_append] at hj
            rw [Array.getElem?_append_left (by simp only [Array.size_append, List.size_toArray, htl, hul]; omega)] at q1
            by_cases hjc : j < cs.length
            · rw [List.getElem?_append_left hjc] at q2
              rw [Array.getElem?_append_left (by simp only [List.size_toArray, htl]; omega)] at q1
              rw [List.getElem?_toArray, List.getElem?_take, if_pos (by omega)] at q1
              exact (hold j v c (by simpa using q1) q2).mono hkp
            · rw [List.getElem?_append_right (by omega)] at q2
              rw [Array.getElem?_append_right (by simp only [List.size_toArray, htl]; omega)] at q1
              simp only [List.size_toArray, htl, List.getElem?_toArray] at q1
              rw [← hcl] at q1
              exact (hur _ v c q1 q2).mono hkp)
        rw [← e1]
        exact hnext _ Λ' e3 e2 (by simpa [S.app, asets] using e4) e5 (fun j hj hn _ => e6 j hj (hkj j hn))
end
end Go.GB


/-
  GbOj: appends to the arrays of a family.
-/
namespace Go.GB

/-- an array of a family grows into a new block -/
theorem FStep.growA {Λ : L} {w' : World} {o : Obj} {k i n fr : Nat} {s : S} (h : RelS Λ s) (g : Grew Λ.w w' o) (hn : Λ.frf k i < n) :
    FStep Λ { Λ with lab := relab Λ.lab Λ.w.heap.size (.far k i fr), w := w', frf := refrf Λ.frf k i n } k := by
  have hne : ∀ {b : Nat}, b < Λ.w.heap.size → relab Λ.lab Λ.w.heap.size (.far k i fr) b = Λ.lab b := fun h => relab_ne (by omega)
  have hnf : ∀ b j, relab Λ.lab Λ.w.heap.size (.far k i fr) b = .fob k j → Λ.lab b = .fob k j := by
    intro b j hb
    by_cases e : b = Λ.w.heap.size
    · subst e; rw [relab_same] at hb; cases hb
    · rw [relab_ne e] at hb; exact hb
  have hlt : ∀ {b : Nat} {x : Lab}, Λ.lab b = x → x ≠ .fix none → b < Λ.w.heap.size := by
    intro b x hl hx
    rcases Nat.lt_or_ge b Λ.w.heap.size with h' | h'
    · exact h'
    · rw [h.new b h'] at hl; exact absurd hl.symm hx
  refine ⟨g.os, g.tape, g.output, by rw [g.size]; omega, rfl, rfl, fun b => ?_, fun b hb _ => g.old hb, fun b j hl => ⟨by simp only [hne (hlt hl (by simp))]; exact hl, fun N hN => by unfold rowSize at hN ⊢; rw [g.old (hlt hl (by simp))]; exact hN⟩, fun b j m hb hl _ => ⟨by simp only [hne hb]; exact hl, g.old hb⟩, fun b j m hb hl o ho => ⟨by simp [Rd, hne hb, hl, ho], cell?_heap (g.old hb)⟩,
    fun j i' hj => refrf_ne (by omega), fun i' => ?_, fun b j _ hb => hnf b j hb, fun b b' j h1 h2 => h.injF b b' k j (hnf b j h1) (hnf b' j h2), fun b hb => ?_⟩
  · by_cases e : b = Λ.w.heap.size
    · subst e; refine .inr ⟨by simp [relab_same, Lab.ofK], .inr (Nat.le_refl _)⟩
    · exact .inl (relab_ne e)
  · by_cases e : i' = i
    · subst e; show Λ.frf k i' ≤ refrf Λ.frf k i' n k i'; rw [refrf_same]; omega
    · show Λ.frf k i' ≤ refrf Λ.frf k i n k i'; rw [refrf_ne (by simp [e])]; exact Nat.le_refl _
  · simp only at hb ⊢
    rw [g.size] at hb
    rw [relab_ne (by omega)]; exact h.new b (by omega)

/-- an array of a family grows in its block -/
theorem FStep.grownA {Λ : L} {w' : World} {b k i n fr fr' : Nat} {s : S} (h : RelS Λ s) (g : Wrote Λ.w w' b) (hb : Λ.lab b = .far k i fr) (hfr : fr ≤ fr') (hc : ∀ o, o < fr → w'.cell? ⟨b, o, none⟩ = Λ.w.cell? ⟨b, o, none⟩) (hn : Λ.frf k i < n) :
    FStep Λ { Λ with lab := relab Λ.lab b (.far k i fr'), w := w', frf := refrf Λ.frf k i n } k := by
  have hnf : ∀ c j, relab Λ.lab b (.far k i fr') c = .fob k j → Λ.lab c = .fob k j ∧ c ≠ b := by
    intro c j hc
    by_cases e : c = b
    · subst e; rw [relab_same] at hc; cases hc
    · rw [relab_ne e] at hc; exact ⟨hc, e⟩
  have hcb : ∀ c j, Λ.lab c = .fob k j → c ≠ b := by rintro c j hl rfl; rw [hb] at hl; cases hl
  refine ⟨g.os, g.tape, g.output, by rw [g.size]; exact Nat.le_refl _, rfl, rfl, fun c => ?_, fun c _ hc => g.old c (fun e => hc (by rw [e, hb]; rfl)), fun c j hl => ⟨by simp only [relab_ne (hcb c j hl)]; exact hl, fun N hN => by unfold rowSize at hN ⊢; rw [g.old c (hcb c j hl)]; exact hN⟩, fun c j m hcl hl he => ?_, fun c j m hcl hl o ho => ?_,
    fun j i' hj => refrf_ne (by omega), fun i' => ?_, fun c j _ hb => (hnf c j hb).1, fun c c' j h1 h2 => h.injF c c' k j (hnf c j h1).1 (hnf c' j h2).1, fun c hcl => ?_⟩
  · by_cases e : c = b
    · subst e; exact .inr ⟨by simp [relab_same, Lab.ofK], .inl (by rw [hb]; rfl)⟩
    · exact .inl (relab_ne e)
  · have hji : j ≠ i := by
      rintro rfl
      have : refrf Λ.frf k j n k j = Λ.frf k j := he
      rw [refrf_same] at this; omega
    have hcb : c ≠ b := by rintro rfl; rw [hb] at hl; simp at hl; exact hji hl.1.symm
    exact ⟨by simp only [relab_ne hcb]; exact hl, g.old c hcb⟩
  · by_cases e : c = b
    · subst e
      rw [hb] at hl; simp at hl; obtain ⟨_, rfl⟩ := hl
      exact ⟨by simp [Rd, relab_same]; omega, hc o ho⟩
    · exact ⟨by simp [Rd, relab_ne e, hl, ho], cell?_heap (g.old c e)⟩
  · by_cases e : i' = i
    · subst e; show Λ.frf k i' ≤ refrf Λ.frf k i' n k i'; rw [refrf_same]; omega
    · show Λ.frf k i' ≤ refrf Λ.frf k i n k i'; rw [refrf_ne (by simp [e])]; exact Nat.le_refl _
  · simp only at hcl ⊢
    rw [g.size] at hcl
    have : c ≠ b := by intro e; rw [e] at hcl; rw [h.new _ hcl] at hb; simp at hb
    rw [relab_ne this]; exact h.new c hcl

theorem FStep.same {Λ : L} {k : Nat} {s : S} (h : RelS Λ s) : FStep Λ Λ k :=
  ⟨rfl, rfl, rfl, Nat.le_refl _, rfl, rfl, fun _ => .inl rfl, fun _ _ _ => rfl, fun _ _ hl => ⟨hl, fun _ h => h⟩, fun _ _ _ _ hl _ => ⟨hl, rfl⟩, fun c j m _ hl o ho => ⟨by simp [Rd, hl, ho], rfl⟩, fun _ _ _ => rfl, fun _ => Nat.le_refl _, fun _ _ _ h => h, fun b b' j h1 h2 => h.injF b b' k j h1 h2, h.new⟩

section
variable {P : Program} {o : Oper} {base : Nat} {st : St}

/-- the lengths of a family -/
theorem farr_set {f : Nat → Nat → Nat} {k i n : Nat} {ns : List Nat} (h : ∀ j, f k j = (ns[j]?).getD 0) (hi : i < ns.length) : ∀ j, refrf f k i n k j = ((ns.set i n)[j]?).getD 0 := by
  intro j
  rw [List.getElem?_set]
  by_cases e : i = j
  · subst e; rw [refrf_same, if_pos rfl, if_pos hi]; rfl
  · rw [refrf_ne (by omega), if_neg e]; exact h j

theorem o_appF {sz bytes k i : Nat} {x' y' : Ar} {xs ys : List (List T)} {ns : List Nat} (A : AppOp P o sz bytes x' y') (hxv : x'.u st = .fow k i sz xs) (hk : aget st.s.sto k = some (.farr ns)) (hi : ns[i]? = some xs.length) (hyv : (y'.u st).cell1 = some (.lst ys)) (hl : allLen sz ys = true)
    (hroom : (xs.length + ys.length) * bytes ≤ 140737488355328) (h63 : xs.length + ys.length ≤ 9223372036854775807) :
    OSound P o base st { v := .fow k i sz (xs ++ ys), ob := [(k, .farr (ns.set i (xs.length + ys.length)))], rd := true } := by
  intro C Λ a next Q hC hr hle hfree hnext
  have hx1 := hr.opu A.hx
  rw [hxv] at hx1
  obtain ⟨hkn, hns⟩ := hr.s.sto k _ hk
  have hns : ∀ j, Λ.frf k j = (ns[j]?).getD 0 := hns
  have hfk : Λ.frf k i = xs.length := by rw [hns i, hi]; rfl
  have hil : i < ns.length := (List.getElem?_eq_some_iff.1 hi).1
  have hy1 := (hr.opu A.hy).cell1 hyv
  have hlY := allLen_at hl
  have hkj : ∀ j, aget st.s.sto j = none → j ≠ k := by rintro j hn rfl; rw [hk] at hn; cases hn
  unfold Oper.wp
  generalize hxe : a.eval A.x = vx at hx1
  cases hx1 with
  | fow hrep hsz _ _ how =>
  by_cases hy0 : ys.length = 0
  · have hys : ys = [] := List.length_eq_zero_iff.1 hy0
    subst hys
    have hvx : ∃ ad n cap, vx = .slice ad n cap ∧ n ≤ cap := by
      rcases how hfk.symm with ⟨⟨ad, rfl⟩, _⟩ | ⟨b, cap, arr, e', rfl, _, _, _, hnc⟩
      · exact ⟨_, _, _, rfl, Nat.le_refl _⟩
      · exact ⟨_, _, _, rfl, hnc⟩
    have hrun : (execOp a.eval o).run P Λ.w = .ok (.value vx) Λ.w := by
      refine run_op_append A.ho rfl A.ha A.hat ?_
      obtain ⟨ad, n, cap, rfl, hnc⟩ := hvx
      rw [hxe]
      generalize a.eval A.y = u at hy1
      cases hy1 with
      | lst a' cap' _ _ _ _ _ _ _ _ _ _ _ => exact run_append_zero A.ht A.hi _ _ _ hnc a' cap' Λ.w
    rw [hrun]
    have e0 : ns.set i (xs.length + ([] : List (List T)).length) = ns := by
      apply List.ext_getElem?
      intro j; rw [List.getElem?_set]
      by_cases e : i = j
      · subst e; rw [if_pos rfl, if_pos hil, hi]; simp
      · rw [if_neg e]
    rw [e0] at hnext
    have F := FStep.same (k := k) hr.s
    refine hnext _ Λ (Kp.refl Λ) rfl (F.rels (o := .farr ns) hr.s hkn hns) (by simpa using RelV.fow hrep hsz hkn (by omega) how) (fun j hj _ _ => hj)
  · obtain ⟨yb, yoff, ycap, vs, hv, hcap, hvl, hvc, hvr⟩ := hy1.cells hlY (by omega) A.h0
    have hone : ∀ u ∈ vs, u.oneCell' = true := by
      intro u hu
      obtain ⟨j, hj⟩ := List.mem_iff_getElem?.1 hu
      have hjl := (List.getElem?_eq_some_iff.1 hj).1
      have hfl : j < ys.flatten.length := by rw [flat_len ys hlY]; omega
      exact (hvr j u ys.flatten[j] hj (by simp)).oneCell
    rcases how hfk.symm with ⟨⟨ad, rfl⟩, hx0⟩ | ⟨b, cap, arr, e', rfl, hlb, hhb, hac, hnc⟩
    · have hxs : xs = [] := List.length_eq_zero_iff.1 hx0
      subst hxs
      have hrun' : (Builtin.append_ #[A.t, A.t] o.type #[.slice ad 0 0, .slice (some ⟨yb, yoff, none⟩) ys.length ycap]).run P Λ.w =
          .ok (.slice (some ⟨Λ.w.heap.size, 0, none⟩) ys.length (grownCap Λ.w ys.length 0 A.e)) (Λ.w.drew.alloc (.cells (vs.toArray ++ Builtin.zeroCells A.z.cells (grownCap Λ.w ys.length 0 A.e - ys.length)) A.e)) := by
        simp only [List.length_nil, Nat.zero_add] at hroom h63
        cases ad with
        | none => exact run_append_nil (P := P) Λ.w A.t o.type A.e A.inf A.z A.ht A.hi A.hz ⟨yb, yoff, none⟩ ys.length ycap vs (by rw [A.hs]; exact hvl) (fun j u hu => by rw [add_mk]; exact (hvc j u hu).1) (by omega) (by omega) (by rw [A.hb]; omega)
        | some ad =>
          have := run_append_grow (P := P) Λ.w A.t o.type A.e A.inf A.z A.ht A.hi A.hz ad 0 0 [] (by simp) (by simp) ⟨yb, yoff, none⟩ ys.length ycap vs (by rw [A.hs]; exact hvl) (fun j u hu => by rw [add_mk]; exact (hvc j u hu).1) (by omega) (by omega) (by rw [Nat.zero_add, nextslicecap_zero (by omega), A.hb]; omega)
          simpa only [Nat.zero_add, List.append_toArray, List.nil_append] using this
      have hrun := run_op_append (x := A.x) (y := A.y) (a := a) A.ho rfl A.ha A.hat (by rw [hxe, hv]; exact hrun')
      rw [hrun]
      have hge := grownCap_ge Λ.w ys.length 0 A.e
      have F := FStep.growA (i := i) (n := ([] : List (List T)).length + ys.length) (fr := ys.length * sz) hr.s (Grew.drewAlloc Λ.w (.cells (vs.toArray ++ Builtin.zeroCells A.z.cells (grownCap Λ.w ys.length 0 A.e - ys.length)) A.e)) (by rw [hfk]; simp; omega)
      have g := Grew.drewAlloc Λ.w (.cells (vs.toArray ++ Builtin.zeroCells A.z.cells (grownCap Λ.w ys.length 0 A.e - ys.length)) A.e)
      have k1 := F.kp hr.s
      refine hnext _ _ k1 rfl (F.rels (o := .farr _) hr.s hkn (farr_set hns hil)) (.fow ?_ (by simpa using hlY) hkn (by simp [refrf]) (fun _ => .inr ⟨Λ.w.heap.size, _, _, _, rfl, by simp [relab], g.top, ?_, by simpa using hge⟩)) (fun j hj hn _ => F.free hj (hkj j hn))
      · rw [List.nil_append]
        refine rep_block (sz := sz) (vs := vs) g.top hge rfl hlY (fun o ho => by simp [Rd, relab]; exact ho) (fun j v hj => ?_) hvl (fun j v x h1 h2 => (hvr j v x h1 h2).mono k1.fr)
        rw [Array.getElem?_append_left (by have := (List.getElem?_eq_some_iff.1 hj).1; simpa using this)]; simpa using hj
      · simp only [Array.size_append, List.size_toArray, size_zeroCells, A.hzs, hvl]
        rw [← Nat.add_mul]; congr 1; omega
    · -- the old cells
      have hold : ∃ us : List Value, us.length = xs.length * sz ∧ (∀ (j : Nat) (u : Value), us[j]? = some u → arr[j]? = some u) ∧ ∀ (j : Nat) (u : Value) (x : T), us[j]? = some u → xs.flatten[j]? = some x → RepT Λ.lab Λ.w u x := by
        by_cases hx0 : xs.length = 0
        · exact ⟨[], by simp [hx0], by simp, by simp⟩
        · obtain ⟨b', off', cap', us, e1, e2, e3, e4, e5⟩ := hrep.cells hsz (by omega) A.h0
          simp at e1
          obtain ⟨⟨rfl, rfl⟩, rfl⟩ := e1
          refine ⟨us, e3, fun j u hu => ?_, e5⟩
          have := (e4 j u hu).1
          rw [cell_of_row Λ.w b _ arr e' _ hhb] at this
          simpa using this
      obtain ⟨us, hul, huc, hur⟩ := hold
      have hflat : (xs ++ ys).flatten = xs.flatten ++ ys.flatten := by simp
      have hboth : ∀ (j : Nat) (u : Value) (x : T), (us ++ vs)[j]? = some u → (xs ++ ys).flatten[j]? = some x → RepT Λ.lab Λ.w u x := by
        intro j u x h1 h2
        rw [hflat] at h2
        have hxl := flat_len xs hsz
        by_cases hj : j < us.length
        · rw [List.getElem?_append_left hj] at h1
          rw [List.getElem?_append_left (by omega)] at h2
          exact hur j u x h1 h2
        · rw [List.getElem?_append_right (by omega)] at h1
          rw [List.getElem?_append_right (by omega)] at h2
          rw [hxl, ← hul] at h2
          exact hvr _ u x h1 h2
      by_cases hrm : xs.length + ys.length ≤ cap
      · have hfit : xs.length * A.inf.size + vs.length ≤ arr.size := by
          rw [A.hs, hvl, hac, ← Nat.add_mul]; exact Nat.mul_le_mul_right _ hrm
        have hrun' := run_append_room' (P := P) (ty := o.type) Λ.w A.ht A.hi b xs.length cap arr hhb ⟨yb, yoff, none⟩ ys.length ycap vs (by rw [A.hs]; exact hvl) (fun j u hu => by rw [add_mk]; exact (hvc j u hu).1) hone hrm hfit
        have hrun := run_op_append (x := A.x) (y := A.y) (a := a) A.ho rfl A.ha A.hat (by rw [hxe, hv]; exact hrun')
        rw [hrun]
        rw [A.hs] at hfit ⊢
        have harrL : ∀ j, j < xs.length * sz → (arr.toList.take (xs.length * sz) ++ vs ++ arr.toList.drop (xs.length * sz + vs.length)).toArray[j]? = arr[j]? := by
          intro j hj
          have : (arr.toList.take (xs.length * sz)).length = xs.length * sz := by simp; omega
          simp only [List.getElem?_toArray]
          rw [List.append_assoc, List.getElem?_append_left (by omega), List.getElem?_take, if_pos hj]
          simp
        have hsz2 : (arr.toList.take (xs.length * sz) ++ vs ++ arr.toList.drop (xs.length * sz + vs.length)).toArray.size = cap * sz := by simp; omega
        have hget2 : ∀ (j : Nat) (v : Value), (us ++ vs)[j]? = some v → (arr.toList.take (xs.length * sz) ++ vs ++ arr.toList.drop (xs.length * sz + vs.length)).toArray[j]? = some v := by
          intro j v hj
          by_cases hjl : j < us.length
          · rw [List.getElem?_append_left hjl] at hj
            rw [harrL j (by omega)]; exact huc j v hj
          · rw [List.getElem?_append_right (by omega)] at hj
            have : (arr.toList.take (xs.length * sz)).length = xs.length * sz := by simp; omega
            simp only [List.getElem?_toArray]
            have hjv := (List.getElem?_eq_some_iff.1 hj).1
            rw [List.append_assoc, List.getElem?_append_right (by omega), List.getElem?_append_left (by omega), this, ← hul]; exact hj
        generalize (arr.toList.take (xs.length * sz) ++ vs ++ arr.toList.drop (xs.length * sz + vs.length)).toArray = A2 at *
        have F := FStep.grownA (n := xs.length + ys.length) (fr' := (xs.length + ys.length) * sz) hr.s (Wrote.setRow Λ.w b A2) hlb (Nat.mul_le_mul_right _ (by omega)) (fun o ho => by
          rw [cell_setRow_same _ _ _ _ _ _ _ hhb, cell_of_row Λ.w b o arr e' _ hhb]; exact harrL o ho) (by omega)
        have k1 := F.kp hr.s
        refine hnext (.slice (some ⟨b, 0, none⟩) (xs.length + ys.length) cap) _ k1 rfl (F.rels (o := .farr _) hr.s hkn (farr_set hns hil)) (.fow ?_ (allLen_append hsz hlY) hkn (by simp [refrf]) (fun _ => .inr ⟨b, cap, A2, e', by simp, by simp [relab], setRow_heap _ _ _ _ _ _ hhb, hsz2, by simpa using hrm⟩)) (fun j hj hn _ => F.free hj (hkj j hn))
        exact rep_block (sz := sz) (vs := us ++ vs) (setRow_heap _ _ _ _ _ _ hhb) hrm (by simp) (allLen_append hsz hlY) (fun o ho => by simp [Rd, relab] at ho ⊢; exact ho) hget2 (by simp [hul, hvl, Nat.add_mul]) (fun j v x h1 h2 => (hboth j v x h1 h2).mono k1.fr)
      · have hrun' := run_append_grow (P := P) Λ.w A.t o.type A.e A.inf A.z A.ht A.hi A.hz ⟨b, 0, none⟩ xs.length cap us (by rw [A.hs]; exact hul)
          (fun j u hu => by rw [add_mk, cell_of_row Λ.w b _ arr e' _ hhb, Nat.zero_add]; exact huc j u hu) ⟨yb, yoff, none⟩ ys.length ycap vs (by rw [A.hs]; exact hvl) (fun j u hu => by rw [add_mk]; exact (hvc j u hu).1) (by omega) (by omega)
          (by rw [A.hb]; exact growslice_fits (by omega) hroom)
        have hrun := run_op_append (x := A.x) (y := A.y) (a := a) A.ho rfl A.ha A.hat (by rw [hxe, hv]; exact hrun')
        rw [hrun]
        have g := Grew.drewAlloc Λ.w (.cells (us.toArray ++ vs.toArray ++ Builtin.zeroCells A.z.cells (grownCap Λ.w (xs.length + ys.length) cap A.e - (xs.length + ys.length))) A.e)
        have F := FStep.growA (k := k) (i := i) (n := xs.length + ys.length) (fr := (xs.length + ys.length) * sz) hr.s g (by omega)
        have k1 := F.kp hr.s
        have hge := grownCap_ge Λ.w (xs.length + ys.length) cap A.e
        refine hnext (.slice (some ⟨Λ.w.heap.size, 0, none⟩) (xs.length + ys.length) (grownCap Λ.w (xs.length + ys.length) cap A.e)) _ k1 rfl (F.rels (o := .farr _) hr.s hkn (farr_set hns hil)) (.fow ?_ (allLen_append hsz hlY) hkn (by simp [refrf]) (fun _ => .inr ⟨Λ.w.heap.size, grownCap Λ.w (xs.length + ys.length) cap A.e, _, A.e, by simp, by simp [relab], g.top, ?_, by simpa using hge⟩)) (fun j hj hn _ => F.free hj (hkj j hn))
        · refine rep_block (sz := sz) (vs := us ++ vs) g.top hge (by simp) (allLen_append hsz hlY) (fun o ho => by simp [Rd, relab] at ho ⊢; exact ho) (fun j v hj => ?_) (by simp [hul, hvl, Nat.add_mul]) (fun j v x h1 h2 => (hboth j v x h1 h2).mono k1.fr)
          have hjl := (List.getElem?_eq_some_iff.1 hj).1
          rw [Array.getElem?_append_left (by simpa using hjl)]
          have : (us.toArray ++ vs.toArray)[j]? = (us ++ vs)[j]? := by simp
          rw [this]; exact hj
        · simp only [Array.size_append, List.size_toArray, size_zeroCells, A.hzs, hvl, hul]
          rw [← Nat.add_mul, ← Nat.add_mul]; congr 1; omega
end
end Go.GB


/-
  GbOk: slice literals of cells of any kind; clear on growing arrays.
-/
namespace Go.GB
section
variable {P : Program} {o : Oper} {base : Nat} {st : St}

theorem obj_fill {C : Ctx} {Λ : L} {ac : Act} (h : Rel C Λ st ac) (sz : Nat) : ∀ (parts : List (Nat × Operand)) (ps : List (Nat × Ar)) (arr : Array Value) (cs xs : List V),
    slotsOf parts = some ps → RelC Λ arr cs → objParts st sz cs ps = some xs →
    ∃ arr', Instr.fill (fun i => some (i * sz, sz)) arr (parts.map fun (i, x) => (i, ac.eval x)) = some arr' ∧ RelC Λ arr' xs
  | [], ps, arr, cs, xs, hps, hr, hf => by
    simp [slotsOf] at hps; subst hps; simp [objParts] at hf; subst hf
    exact ⟨arr, rfl, hr⟩
  | (i, x) :: parts, ps, arr, cs, xs, hps, hr, hf => by
    simp only [slotsOf] at hps
    split at hps
    · rename_i a l h1 h2
      simp at hps; subst hps
      simp only [objParts] at hf
      split at hf
      · rename_i c hc
        split at hf
        · rename_i hcond
          have hrc := (h.opu h1).parts hc
          have hfold := RelC.foldl (i * sz) (ac.eval x).cells.toList c 0 arr cs (by simpa using hrc.1) (fun j a b e1 e2 => hrc.2 j a b (by simpa using e1) e2) hr
          rw [Nat.add_zero] at hfold
          obtain ⟨arr', e1, e2⟩ := obj_fill h sz parts l _ _ xs h2 hfold hf
          refine ⟨arr', ?_, e2⟩
          have hsz : (ac.eval x).cells.size = sz := by rw [hrc.1]; exact hcond.1
          have hsz2 : arr.size = cs.length := hr.1
          simp only [List.map_cons, Instr.fill, hsz]
          have : ¬ (i * sz + sz > arr.size) := by omega
          simp only [ne_eq, not_true_eq_false, decide_false, this, Bool.or_self, Bool.false_eq_true, if_false]
          rw [← e1]
          congr 1
          rw [← Array.foldl_toList, Array.toList_zipIdx]
        · simp at hf
      · simp at hf
    · simp at hps

theorem o_bslO {sz : Nat} {zs : List (List T)} {ps : List (Nat × Ar)} {cs : List V} (B : BslOp P o sz zs ps) (hx : objParts st sz (zs.flatten.map V.t) ps = some cs) : OSound P o base st { v := .slc base 0 zs.length sz, ob := [(base, .cells cs)], n := 1 } := by
  intro C Λ a next Q hC hr hle hfree hnext
  obtain ⟨i, zval, hi, hz1, hlen, hok⟩ := zerosOf_spec B.hzv
  have hsz : i.size = sz := by have := B.hs; unfold szOf at this; rw [hi] at this; simpa using this
  have hrc := relC_pure (zeros_relC (Λ := Λ) hok) B.hz
  have hzl : zval.cells.size = sz := by rw [(zeros_relC (Λ := Λ) hok).1, hlen]; exact hsz
  have hmade := made_relC hrc B.n
  have hfl : (List.replicate B.n (B.z.map V.t)).flatten = (zs.flatten.map V.t) := by have e := B.hzs; generalize B.n = n at *; generalize B.z = z at *; subst e; simp
  rw [hfl] at hmade
  obtain ⟨arr, e1, e2⟩ := obj_fill hr sz _ _ _ _ _ B.hps hmade hx
  have hn : zs.length = B.n := by have e := congrArg List.length B.hzs; simpa using e
  have hrun := run_buildSlice (o := o) (a := a) (w := Λ.w) B.ho B.ht hi hz1 (by rw [hzl, hsz]) (by rw [hsz]; exact B.hle) (by rw [hsz]; exact e1)
  unfold Oper.wp
  rw [hrun]
  obtain ⟨hb1, hb2, hb3⟩ := hfree base (Nat.le_refl _) (by simp)
  have g := Grew.alloc Λ.w (.cells arr B.e)
  have hkp := Kp.new g hr.s.new (.obj base)
  obtain ⟨k1, k2, k3⟩ := new_obj hr.s g hb1 hb2 rfl (ao := .cells cs) ⟨Λ.w.heap.size, _, _, by simp [relab_same], g.top, e2.1, fun j v c q1 q2 => (e2.2 j v c q1 q2).mono hkp⟩
  rw [← hn]
  exact hnext _ _ k1 rfl k2 (.slc hb1 (Nat.le_refl _) (by simp [relab_same])) (fun k hk _ hlt => k3 k hk (by simp at hlt; omega))

/-- the lengths of a family with one more array -/
theorem farr_push {f : Nat → Nat → Nat} {k n : Nat} {ns : List Nat} (h : ∀ j, f k j = (ns[j]?).getD 0) : ∀ j, refrf f k ns.length n k j = ((ns ++ [n])[j]?).getD 0 := by
  intro j
  by_cases e : ns.length = j
  · subst e; rw [refrf_same]; simp
  · rw [refrf_ne (by omega), h j]
    by_cases hj : j < ns.length
    · rw [List.getElem?_append_left hj]
    · rw [List.getElem?_eq_none (by omega), List.getElem?_eq_none (by simp; omega)]
theorem o_bslF {sz k : Nat} {zs xs : List (List T)} {ps : List (Nat × Ar)} {ns : List Nat} (B : BslOp P o sz zs ps) (hx : pureParts st sz zs ps = some xs) (hk : aget st.s.sto k = some (.farr ns)) (h0 : 0 < xs.length) :
    OSound P o base st { v := .fow k ns.length sz xs, ob := [(k, .farr (ns ++ [xs.length]))], rd := true } := by
  intro C Λ a next Q hC hr hle hfree hnext
  obtain ⟨arr, h1, h2, h3⟩ := bsl_run B hr hx
  obtain ⟨hkn, hns⟩ := hr.s.sto k _ hk
  have hns : ∀ j, Λ.frf k j = (ns[j]?).getD 0 := hns
  have hfk : Λ.frf k ns.length = 0 := by rw [hns]; simp
  have hkj : ∀ j, aget st.s.sto j = none → j ≠ k := by rintro j hn rfl; rw [hk] at hn; cases hn
  unfold Oper.wp
  rw [h1]
  have g := Grew.alloc Λ.w (.cells arr B.e)
  have F := FStep.growA (k := k) (i := ns.length) (n := xs.length) (fr := xs.length * sz) hr.s g (by omega)
  have k1 := F.kp hr.s
  have hal : arr.size = xs.length * sz := by rw [h2.1, List.length_map, flat_len xs h3]
  refine hnext _ _ k1 rfl (F.rels (o := .farr _) hr.s hkn (farr_push hns)) (.fow ?_ h3 hkn (by simp [refrf]) (fun _ => .inr ⟨Λ.w.heap.size, xs.length, arr, B.e, rfl, by simp [relab], g.top, hal, Nat.le_refl _⟩)) (fun j hj hn _ => F.free hj (hkj j hn))
  refine rep_block (sz := sz) (vs := arr.toList) g.top (Nat.le_refl _) rfl h3 (fun o ho => by simp [Rd, relab]; exact ho) (fun j v hj => by simpa using hj) (by rw [Array.length_toList, hal]) fun j v x e1 e2 => ?_
  exact (h2.2 j v (.t x) (by simpa using e1) (by simp only [List.getElem?_map, e2]; rfl)).repT.mono k1.fr
theorem o_clrG {ty e : TypeId} {x : Operand} {args : Array Operand} {ats : Array TypeId} {x' : Ar} {sz : Nat} {z : List V} {k ver off len w : Nat} {cs : List V} (hop : o.op = .call { callee := .builtin .clear, args := args, argTypes := ats }) (ha : args.toList = [x]) (hat : ats[0]? = some ty)
    (hu : P.underlying ty = some (.slice e)) (hs : szOf P e = some sz) (hz : zerosOf P e = some z) (hzc : z.all V.cellOk = true) (hx : opA x = some x') (hxv : x'.u st = .gsl k ver off len sz) (hk : aget st.s.sto k = some (.gro w cs)) (hw : ver = w) (hle : off + len * sz ≤ cs.length) :
    OSound P o base st { v := .top, ob := [(k, .gro w (setAt cs off (List.replicate len z).flatten))], rd := true } := by
  intro C Λ a next Q hC hr hle' hfree hnext
  have hx1 := hr.opu hx
  rw [hxv] at hx1
  obtain ⟨hkn, hwv, hcur0⟩ := hr.s.sto k _ hk
  have hargs : args.map a.eval = #[a.eval x] := by apply Array.ext'; simp [ha]
  obtain ⟨i, zval, hi, hz1, hlen, hok⟩ := zerosOf_spec hz
  have hsz : i.size = sz := by have := hs; unfold szOf at this; rw [hi] at this; simpa using this
  have hrc := zeros_relC (Λ := Λ) hok
  have hzl : zval.cells.size = sz := by rw [hrc.1, hlen]; exact hsz
  have hkj : ∀ j, aget st.s.sto j = none → j ≠ k := by rintro j hn rfl; rw [hk] at hn; cases hn
  unfold Oper.wp
  generalize hxe : a.eval x = vx at hx1
  cases hx1 with
  | gsl _ _ _ hb =>
  have hE : (a.eval x = vx) := hxe
  by_cases hl0 : len = 0
  · subst hl0
    have hsl : ∃ ad c, vx = .slice ad 0 c := by
      rcases hb (hw.trans hwv.symm) with ⟨⟨ad, rfl⟩, _⟩ | ⟨b, cap, N, rfl, _⟩
      · exact ⟨_, _, rfl⟩
      · exact ⟨_, _, rfl⟩
    obtain ⟨ad, c, rfl⟩ := hsl
    have hrun : (execOp a.eval o).run P Λ.w = .ok (.value (.tuple #[])) Λ.w := by
      simp only [execOp, hop, resolve, Sem.run_bind, Sem.run_pure, Result.andThen_ok, invoke, builtin, hargs, hxe]
      cases ad <;> simp [Builtin.clear_, hat, run_underlying hu]
    rw [hrun]
    have e0 : setAt cs off (List.replicate 0 z).flatten = cs := by simp [setAt]
    rw [e0] at hnext
    exact hnext _ Λ (Kp.refl Λ) rfl ((FStep.same (k := k) hr.s).rels (o := .gro w cs) hr.s hkn ⟨hwv, hcur0⟩) .top (fun j hj _ _ => hj)
  · rcases hb (hw.trans hwv.symm) with ⟨⟨ad, rfl⟩, h0⟩ | ⟨b, cap, N, rfl, hcap, hcur, hN, hN'⟩
    · exact absurd h0 hl0
    · obtain ⟨arr, e', hhb, hac, hold⟩ := hr.s.gCells hk hcur
      obtain ⟨n, rfl⟩ : ∃ n, len = n + 1 := ⟨len - 1, by omega⟩
      have hmade := made_relC hrc (n + 1)
      have hvl : (List.replicate (n + 1) z).flatten.length = (n + 1) * sz := by
        have := flat_len (sz := sz) (List.replicate (n + 1) z) (fun i c hc => by
          have := List.mem_of_getElem? hc
          rw [List.mem_replicate] at this
          rw [this.2]; omega)
        simpa using this
      have hone : ∀ u ∈ (Builtin.zeroCells zval.cells (n + 1)).toList, u.oneCell' = true := by
        intro u hu
        obtain ⟨j, hj⟩ := List.mem_iff_getElem?.1 hu
        have hj' : (Builtin.zeroCells zval.cells (n + 1))[j]? = some u := by simpa using hj
        have hlt : j < (List.replicate (n + 1) z).flatten.length := by rw [← hmade.1]; exact (Array.getElem?_eq_some_iff.1 hj').1
        refine (hmade.2 j u _ hj' (List.getElem?_eq_getElem hlt)).oneCell ?_
        have hm := List.getElem_mem hlt
        simp only [List.mem_flatten, List.mem_replicate] at hm
        obtain ⟨l, ⟨_, rfl⟩, hm⟩ := hm
        rw [List.all_eq_true] at hzc
        exact hzc _ hm
      have hul : (Builtin.zeroCells zval.cells (n + 1)).toList.length = (List.replicate (n + 1) z).flatten.length := by rw [← hmade.1]; simp [Builtin.zeroCells]
      have hst := run_storeCells_at P b off e' (Builtin.zeroCells zval.cells (n + 1)).toList 0 arr Λ.w hhb (by simp; rw [← Array.length_toList, hul, hvl]; omega) hone
      simp only [Nat.add_zero] at hst
      have hrun : (execOp a.eval o).run P Λ.w = .ok (.value (.tuple #[])) (Λ.w.setRow b (arr.toList.take off ++ (Builtin.zeroCells zval.cells (n + 1)).toList ++ arr.toList.drop (off + (Builtin.zeroCells zval.cells (n + 1)).toList.length)).toArray) := by
        simp only [execOp, hop, resolve, Sem.run_bind, Sem.run_pure, Result.andThen_ok, invoke, builtin, hargs, hxe]
        simp [Builtin.clear_, hat, run_underlying hu, zeroValue, typeInfo, hi, hz1]
        simp at hst
        simp [hst]
      rw [hrun]
      obtain ⟨i', hb', hb2⟩ := hcur
      have hrow := row_set (Λ := Λ) (arr := arr) (cs := cs) (vs := (List.replicate (n + 1) z).flatten) (us := (Builtin.zeroCells zval.cells (n + 1)).toList) (off := off) hul (by rw [hvl]; exact hle) hac hold (fun j v c q1 q2 => hmade.2 j v c (by rw [Array.getElem?_toList] at q1; exact q1) q2)
      have hA : (arr.toList.take off ++ (Builtin.zeroCells zval.cells (n + 1)).toList ++ arr.toList.drop (off + (Builtin.zeroCells zval.cells (n + 1)).toList.length)).toArray.size = arr.size := by
        simp only [List.size_toArray, List.length_append, List.length_take, List.length_drop, hul, hvl, Array.length_toList]; omega
      generalize (arr.toList.take off ++ (Builtin.zeroCells zval.cells (n + 1)).toList ++ arr.toList.drop (off + (Builtin.zeroCells zval.cells (n + 1)).toList.length)).toArray = A at hrow hA ⊢
      have F := FStep.write hr.s (Wrote.setRow Λ.w b A) hb' (rowSize_setRow hhb hA)
      have hkp := F.kp hr.s
      exact hnext _ _ hkp rfl (F.rels hr.s hkn ⟨hwv, .inr ⟨b, A, e', ⟨i', hb', hb2⟩, setRow_heap _ _ _ _ _ _ hhb, by rw [setAt_length, hA]; exact hac, fun j v c q1 q2 => (hrow j v c q1 q2).mono hkp⟩⟩) .top (fun j hj hn _ => F.free hj (hkj j hn))
end
end Go.GB

