/-
  YtpagjojfjeanlaaP4: lemmas of this proof (part 4). No conditions.
-/
import Derived.Test.YtpagjojfjeanlaaP3

/-
  GbV: functions: their entry, their results, contracts, and calls of functions that are handed no objects.
-/
namespace Go.GB

inductive ARes where
  | tmp (t : Nat)
  | cell (a : Nat) (ag : Bool) (n : Nat)

def resR (P : Program) : ResultVar → Option ARes
  | .tmp t => some (.tmp t)
  | .cell a t =>
    match szOf P t, P.underlying t with
    | some n, some _ => some (.cell a (isAggT P t) n)
    | _, _ => none

def ARes.v (st : St) : ARes → Option V
  | .tmp t => some (look st.env t)
  | .cell a ag n =>
    match look st.env a with
    | .ptr k o =>
      match aget st.s.sto k with
      | some (.cells cs) => if ag then (if o + n ≤ cs.length then some (.agg ((cs.drop o).take n)) else none) else cs[o]?
      | _ => none
    | _ => none

def ressV (st : St) : List ARes → Option V
  | [] => some (.tup [])
  | [r] => r.v st
  | [r, q] => match r.v st, q.v st with | some x, some y => some (.tup [x, y]) | _, _ => none
  | [r, q, p] => match r.v st, q.v st, p.v st with | some x, some y, some z => some (.tup [x, y, z]) | _, _, _ => none
  | _ => none

/-- what a proof must know of a function: its slots, its code, its results -/
def fnInfo (P : Program) (f : FuncId) : Option (Nat × ACode × List ARes) :=
  match P.funcs[f]? with
  | some fn =>
    match fn.body with
    | some c =>
      match resC P c, fn.results.toList.mapM (resR P) with
      | some a, some rs => if codeOk fn.ntmps c && !(fn.name == "runtime.NumGoroutine") then some (fn.ntmps, a, rs) else none
      | _, _ => none
    | none => none
  | none => none

def entryE : Nat → List V → List (Nat × V)
  | _, [] => []
  | i, x :: r => (i, x) :: entryE (i + 1) r

theorem look_entry : ∀ (vs : List V) (i t : Nat), look (entryE i vs) t = if i ≤ t then (vs[t - i]?).getD .top else .top
  | [], i, t => by simp [entryE, look, aget]
  | x :: r, i, t => by
    simp only [entryE]
    by_cases e : i = t
    · subst e; simp [look, aget]
    · have := look_entry r (i + 1) t
      simp only [look, aget, e, if_false] at this ⊢
      rw [this]
      by_cases h : i ≤ t
      · have : t - i = (t - (i + 1)) + 1 := by omega
        rw [if_pos (by omega), if_pos h, this]; simp
      · rw [if_neg (by omega), if_neg h]

/-- A function's contract: what it hands back and does to the objects that it is handed. -/
def FnOk (P : Program) (f : FuncId) (vs : List V) (s : S) (out : Out) : Prop :=
  HasB P f ∧ ∀ (Λ : L) (args : Array Value), RelS Λ s → Λ.nxt = s.nxt → args.size = vs.length → (∀ (j : Nat) (v : Value) (x : V), args[j]? = some v → vs[j]? = some x → RelV Λ v x) →
    Calls P f args Λ.w fun e w' => ∃ v Λ', e = .returned v ∧ Λ'.w = w' ∧ Kp Λ Λ' ∧ Λ'.nxt = s.nxt + out.n ∧ RelS Λ' ⟨asets s.sto out.ob, 0⟩ ∧ RelV Λ' v out.v

/-- how a result leaves: names from m on are forgotten; a slice that was made is as it stands -/
def LeR (m : Nat) (s : S) (r r' : V) : Prop := ∀ (Λ : L) (v : Value), m ≤ Λ.nxt → RelS Λ s → RelV Λ v r → RelV (Λ.cut m m) v r'

theorem LeR.le {m : Nat} {s : S} {r r' : V} (h : LeX m m r r') : LeR m s r r' := fun _ _ hm _ hr => h.cut (Nat.le_refl _) hm hr

theorem LeR.slc {m : Nat} {s : S} {k sz : Nat} {cs : List V} {ts : List T} {xs : List (List T)} (hk : m ≤ k) (hs : aget s.sto k = some (.cells cs)) (hts : cs.mapM V.cell1 = some ts) (hxs : xs.flatten = ts) (hl : allLen sz xs = true) :
    LeR m s (.slc k 0 xs.length sz) (.t (.lst xs)) := by
  intro Λ v hm hr hv
  generalize hn : xs.length = n at hv
  cases hv with
  | @slc b _ _ _ cap _ _ hc hb =>
    subst hn
    obtain ⟨arr, e, h2, h3, h4⟩ := hr.objCells hs hb
    obtain ⟨k1, k2⟩ := mapM_cell1 cs ts hts
    have hlab : (Λ.cut m m).lab b = .fix none := by simp [L.cut, hb]; omega
    have hall := allLen_at hl
    refine .t (rep_block (sz := sz) (vs := arr.toList) (b := b) (w := (Λ.cut m m).w) h2 hc rfl hall (fun o _ => by simp [Rd, hlab]) (fun j v hj => by simpa using hj) (by rw [Array.length_toList, h3, k1, ← hxs, flat_len xs hall]) fun j v x e1 e2 => ?_)
    rw [hxs] at e2
    have hlt : j < cs.length := by rw [k1]; exact (List.getElem?_eq_some_iff.1 e2).1
    have := h4 j v cs[j] (by simpa using e1) (by simp [hlt])
    exact (this.cell1 (k2 j _ x (by simp [hlt]) e2)).cut

inductive LeRs (m : Nat) (s : S) : List V → List V → Prop
  | nil : LeRs m s [] []
  | cons {x y : V} {xs ys : List V} (h : LeR m s x y) (t : LeRs m s xs ys) : LeRs m s (x :: xs) (y :: ys)
theorem LeRs.spec {m : Nat} {s : S} {xs ys : List V} (h : LeRs m s xs ys) : xs.length = ys.length ∧ ∀ (j : Nat) (c d : V), xs[j]? = some c → ys[j]? = some d → LeR m s c d := by
  induction h with
  | nil => exact ⟨rfl, fun j c d h => by simp at h⟩
  | cons h _ ih =>
    refine ⟨by simp [ih.1], fun j c d h1 h2 => ?_⟩
    cases j with
    | zero => simp at h1 h2; subst h1; subst h2; exact h
    | succ j => exact ih.2 j c d (by simpa using h1) (by simpa using h2)

theorem LeR.tup {m : Nat} {s : S} {xs ys : List V} (h : LeRs m s xs ys) : LeR m s (.tup xs) (.tup ys) := by
  intro Λ v hm hr hv
  obtain ⟨h1, h2⟩ := h.spec
  cases hv with
  | tup hs hv =>
    refine .tup (hs.trans h1) fun j u d hj hd => ?_
    have hlt : j < xs.length := by rw [h1]; exact (List.getElem?_eq_some_iff.1 hd).1
    exact h2 j xs[j] d (by simp [hlt]) hd Λ u hm hr (hv j u _ hj (by simp [hlt]))

theorem LeR.agg {m : Nat} {s : S} {xs ys : List V} (h : LeRs m s xs ys) : LeR m s (.agg xs) (.agg ys) := by
  intro Λ v hm hr hv
  obtain ⟨h1, h2⟩ := h.spec
  cases hv with
  | agg hs hv =>
    refine .agg (hs.trans h1) fun j u d hj hd => ?_
    have hlt : j < xs.length := by rw [h1]; exact (List.getElem?_eq_some_iff.1 hd).1
    exact h2 j xs[j] d (by simp [hlt]) hd Λ u hm hr (hv j u _ hj (by simp [hlt]))

section
variable {P : Program}

/-- one result variable read -/
def resM (tmps : Array Value) : ResultVar → Sem Value
  | .tmp t => pure (tmps.getD t undef)
  | .cell a t => do loadVar t (← asAddr (tmps.getD a undef))

theorem results_eq (fn : Func) (tmps : Array Value) : results fn tmps = (do let vs ← fn.results.mapM (resM tmps); pure (if h : vs.size = 1 then vs[0] else .tuple vs)) := by
  unfold results
  congr 2

theorem run_res {C : Ctx} {Λ : L} {st : St} {a : Act} (hr : Rel C Λ st a) {rv : ResultVar} {r : ARes} {x : V} (h1 : resR P rv = some r) (h2 : r.v st = some x) :
    ∃ v, (resM a.tmps rv).run P Λ.w = .ok v Λ.w ∧ RelV Λ v x := by
  cases rv with
  | tmp t => simp [resR] at h1; subst h1; simp [ARes.v] at h2; subst h2; exact ⟨_, rfl, hr.env t⟩
  | cell ad t =>
    simp only [resR] at h1
    split at h1
    · rename_i n d hn hu
      simp at h1; subst h1
      simp only [ARes.v] at h2
      split at h2
      · rename_i k o hl
        split at h2
        · rename_i cs hk
          have hx := hr.env ad
          rw [hl] at hx
          simp only [resM]
          generalize a.tmps.getD ad undef = u at hx ⊢
          cases hx with
          | @ptr b _ _ _ hb =>
            obtain ⟨arr, e, e1, e2, e3⟩ := hr.s.objCells hk hb
            split at h2
            · rename_i hag
              split at h2
              · rename_i hle
                simp at h2; subst h2
                have hvl : ((arr.toList.drop o).take n).length = n := by simp; omega
                have hcell : ∀ (j : Nat) (v : Value), ((arr.toList.drop o).take n)[j]? = some v → Λ.w.cell? ⟨b, o + j, none⟩ = some v := by
                  intro j v hj
                  rw [List.getElem?_take] at hj
                  split at hj
                  · rw [List.getElem?_drop] at hj; rw [cell_of_row Λ.w b _ arr e _ e1]; simpa using hj
                  · cases hj
                have := run_loadAt_agg (P := P) hn hag hvl hcell
                simp [Instr.loadAt, Instr.sureAddr] at this
                exact ⟨.agg ((arr.toList.drop o).take n).toArray, by simp [asAddr, this], RelV.subL (vs := arr.toList) (fun j v c a1 a2 => e3 j v c (by simpa using a1) a2) (by simpa using e2) o n⟩
              · cases h2
            · rename_i hag
              have hlt : o < cs.length := (List.getElem?_eq_some_iff.1 h2).1
              have hcell : Λ.w.cell? ⟨b, o, none⟩ = some (arr[o]'(by omega)) := by rw [cell_of_row Λ.w b o arr e _ e1]; simp [e2, hlt]
              have := run_loadAt_one (P := P) hu (by simpa using hag) hcell
              simp [Instr.loadAt, Instr.sureAddr] at this
              exact ⟨arr[o]'(by omega), by simp [asAddr, this], e3 o _ x (by simp) h2⟩
        · cases h2
      · cases h2
    · cases h1

theorem run_results {C : Ctx} {Λ : L} {st : St} {a : Act} (hr : Rel C Λ st a) {fn : Func} {rs : List ARes} {x : V} (h1 : fn.results.toList.mapM (resR P) = some rs) (h2 : ressV st rs = some x) :
    ∃ v, (results fn a.tmps).run P Λ.w = .ok v Λ.w ∧ RelV Λ v x := by
  have hmap : ∀ (l : List ResultVar) (rs : List ARes), l.mapM (resR P) = some rs → l.length = rs.length ∧ ∀ (j : Nat) (x : ResultVar) (y : ARes), l[j]? = some x → rs[j]? = some y → resR P x = some y := by
    intro l
    induction l with
    | nil => intro c h; simp at h; subst h; simp
    | cons d cs ih =>
      intro c h
      simp only [List.mapM_cons, Option.bind_eq_bind, Option.pure_def, Option.bind_eq_some_iff] at h
      obtain ⟨y, hy, c', hc', h⟩ := h
      simp at h; subst h
      obtain ⟨i1, i2⟩ := ih c' hc'
      refine ⟨by simp [i1], fun j e z h1 h2 => ?_⟩
      cases j with
      | zero => simp at h1 h2; subst h1; subst h2; exact hy
      | succ j => exact i2 j e z (by simpa using h1) (by simpa using h2)
  obtain ⟨k1, k2⟩ := hmap _ _ h1
  unfold ressV at h2
  split at h2
  · simp at h2; subst h2
    have : fn.results = #[] := by simpa using k1
    exact ⟨.tuple #[], by simp [results, this], .tup rfl (by simp)⟩
  · rename_i r
    have : ∃ x0, fn.results = #[x0] := by
      match hfn : fn.results.toList, k1 with
      | [x0], _ => exact ⟨x0, by apply Array.ext'; simpa using hfn⟩
    obtain ⟨x0, he⟩ := this
    have hr0 := k2 0 x0 r (by simp [he]) rfl
    obtain ⟨v, e1, e2⟩ := run_res hr hr0 h2
    refine ⟨v, ?_, e2⟩
    rw [results_eq]; simp [he, e1]
  · rename_i r q
    have : ∃ x0 x1, fn.results = #[x0, x1] := by
      match hfn : fn.results.toList, k1 with
      | [x0, x1], _ => exact ⟨x0, x1, by apply Array.ext'; simpa using hfn⟩
    obtain ⟨x0, x1, he⟩ := this
    split at h2
    · rename_i y0 y1 g0 g1
      simp at h2; subst h2
      obtain ⟨v0, a1, a2⟩ := run_res hr (k2 0 x0 r (by simp [he]) rfl) g0
      obtain ⟨v1, b1, b2⟩ := run_res hr (k2 1 x1 q (by simp [he]) rfl) g1
      refine ⟨.tuple #[v0, v1], ?_, .tup rfl fun j v c hv hc => ?_⟩
      · rw [results_eq]; simp [he, a1, b1]
      · match j, hv, hc with
        | 0, hv, hc => simp at hv hc; subst hv; subst hc; exact a2
        | 1, hv, hc => simp at hv hc; subst hv; subst hc; exact b2
    · cases h2
  · rename_i r q p
    have : ∃ x0 x1 x2, fn.results = #[x0, x1, x2] := by
      match hfn : fn.results.toList, k1 with
      | [x0, x1, x2], _ => exact ⟨x0, x1, x2, by apply Array.ext'; simpa using hfn⟩
    obtain ⟨x0, x1, x2, he⟩ := this
    split at h2
    · rename_i y0 y1 y2 g0 g1 g2
      simp at h2; subst h2
      obtain ⟨v0, a1, a2⟩ := run_res hr (k2 0 x0 r (by simp [he]) rfl) g0
      obtain ⟨v1, b1, b2⟩ := run_res hr (k2 1 x1 q (by simp [he]) rfl) g1
      obtain ⟨v2, c1, c2⟩ := run_res hr (k2 2 x2 p (by simp [he]) rfl) g2
      refine ⟨.tuple #[v0, v1, v2], ?_, .tup rfl fun j v c hv hc => ?_⟩
      · rw [results_eq]; simp [he, a1, b1, c1]
      · match j, hv, hc with
        | 0, hv, hc => simp at hv hc; subst hv; subst hc; exact a2
        | 1, hv, hc => simp at hv hc; subst hv; subst hc; exact b2
        | 2, hv, hc => simp at hv hc; subst hv; subst hc; exact c2
    · cases h2
  · cases h2

/-- how a store leaves -/
def LeSto (m : Nat) (s : S) (sto' : List (Nat × AObj)) : Prop := ∀ (Λ : L), m ≤ Λ.nxt → RelS Λ s → RelS (Λ.cut m m) ⟨sto', 0⟩

theorem LeSto.le {m : Nat} {s : S} {sto' : List (Nat × AObj)} (h : LeS m m s.sto sto') : LeSto m s sto' := fun _ hm hr => hr.weak (s' := ⟨sto', 0⟩) hm (Nat.le_refl _) h

def AObj.bd (m : Nat) : AObj → Bool
  | .cells cs => V.bds m cs
  | .map _ es _ => V.bds m (es.map (·.2))
  | .arr _ => true
  | .iter q _ _ _ => decide (q < m)
  | .gro _ cs => V.bds m cs
  | .fobs os => os.all (V.bds m)
  | .farr _ => true
  | .memo _ _ => true
  | .abs _ => true
def stoBd (m : Nat) : List (Nat × AObj) → Bool
  | [] => true
  | (k, o) :: r => decide (k < m) && o.bd m && stoBd m r
theorem stoBd_at {m : Nat} : ∀ {s : List (Nat × AObj)}, stoBd m s = true → ∀ k o, aget s k = some o → k < m ∧ o.bd m = true
  | [], _, k, o, h => by simp [aget] at h
  | (j, x) :: r, hb, k, o, h => by
    simp only [stoBd, Bool.and_eq_true, decide_eq_true_eq] at hb
    by_cases e : j = k
    · subst e; simp [aget] at h; subst h; exact ⟨hb.1.1, hb.1.2⟩
    · simp only [aget, e, if_false] at h; exact stoBd_at hb.2 k o h

theorem RelO.cut {Λ : L} {m m' k : Nat} {o : AObj} (hm : m ≤ m') (hk : k < m) (hb : o.bd m = true) (h : RelO Λ k o) : RelO (Λ.cut m m') k o := by
  cases o with
  | cells cs =>
    obtain ⟨b, arr, e, e1, e2, e3, e4⟩ := h
    exact ⟨b, arr, e, cut_obj e1 hk, e2, e3, fun j v c a1 a2 => (e4 j v c a1 a2).cut hm (V.bds_at (by simpa [AObj.bd] using hb) j c a2)⟩
  | map kag es sx =>
    obtain ⟨b, ents, clock, e1, e2, e3⟩ := h
    exact ⟨b, ents, clock, cut_obj e1 hk, e2, e3.keep (fun _ _ h => h.cut) (fun i kv v hi hv => hv.cut hm (V.bds_at (by simpa [AObj.bd] using hb) i kv.2 (by simp [hi])))⟩
  | arr n => unfold RelO at *; simp [L.cut, hk, h]
  | iter q s seen c =>
    have hq : q < m := by simpa [AObj.bd] using hb
    obtain ⟨b, bm, e1, e2, e3, e4⟩ := h
    exact ⟨b, bm, cut_obj e1 hk, e2, cut_obj e3 hq, Nat.lt_of_lt_of_le hq hm⟩
  | gro r cs =>
    obtain ⟨h0, hr⟩ := h
    refine ⟨by simp [L.cut, hk, h0], ?_⟩
    rcases hr with ⟨e1, e2⟩ | ⟨b, arr, e, ⟨i, e1, e1'⟩, e2, e3, e4⟩
    · exact .inl ⟨e1, fun b i hb => e2 b i (cut_fob_inv hb).1⟩
    · exact .inr ⟨b, arr, e, ⟨i, cut_fob e1 hk, fun b' i' h' => e1' b' i' (cut_fob_inv h').1⟩, e2, e3, fun j v c a1 a2 => (e4 j v c a1 a2).cut hm (V.bds_at (by simpa [AObj.bd] using hb) j c a2)⟩
  | fobs os =>
    obtain ⟨h0, hr⟩ := h
    refine ⟨fun b i hbi => h0 b i (cut_fob_inv hbi).1, fun i cs hi => ?_⟩
    obtain ⟨b, arr, e, e1, e2, e3, e4⟩ := hr i cs hi
    have hbs : V.bds m cs = true := by
      have := hb; simp only [AObj.bd, List.all_eq_true] at this
      exact this cs (List.mem_of_getElem? hi)
    exact ⟨b, arr, e, cut_fob e1 hk, e2, e3, fun j v c a1 a2 => (e4 j v c a1 a2).cut hm (V.bds_at hbs j c a2)⟩
  | farr ns => intro i; have := h i; simpa [L.cut, hk] using this
  | memo kag I =>
    obtain ⟨b, ents, clock, e1, e2, e3, e4, e5⟩ := h
    refine ⟨b, ents, clock, cut_obj e1 hk, e2, e3, e4, fun i e hi => ?_⟩
    obtain ⟨cs, v, g1, g2, g3⟩ := e5 i e hi
    exact ⟨cs, v, g1.keep fun _ _ h => h.cut, g2.cut, g3⟩
  | abs J => exact ⟨h.1, by simp [L.cut, hk, h.2.1], h.1 _ _ _ _ _ _ (fun _ _ h => h.cut) (fun b i => ⟨fun h => cut_fob h hk, fun h => (cut_fob_inv h).1⟩) (fun _ _ _ => rfl) h.2.2⟩

theorem LeSto.same {m : Nat} {s : S} {sto' : List (Nat × AObj)} (h : ∀ k o, aget sto' k = some o → aget s.sto k = some o ∧ k < m ∧ o.bd m = true) : LeSto m s sto' := by
  intro Λ hm hr
  refine ⟨fun k o hk => ?_, fun b b' k h1 h2 => hr.inj b b' k (cut_obj_inv h1).1 (cut_obj_inv h2).1, fun b hb => cut_fix (hr.new b hb), fun b k hb => ?_, fun k hk => by have hk' : m ≤ k := hk; simp [L.cut]; omega, fun b b' k i h1 h2 => hr.injF b b' k i (cut_fob_inv h1).1 (cut_fob_inv h2).1, fun b k hb => ?_, fun k i hk => by have hk' : m ≤ k := hk; simp [L.cut]; omega⟩
  · obtain ⟨h1, h2, h3⟩ := h k o hk
    exact ⟨h2, (hr.sto k o h1).2.cut (Nat.le_refl _) h2 h3⟩
  · rcases hb with hb | ⟨n, hb⟩
    · exact (cut_obj_inv hb).2
    · exact (cut_arr_inv hb).2
  · rcases hb with ⟨i, hb⟩ | ⟨i, n, hb⟩
    · exact (cut_fob_inv hb).2
    · exact (cut_far_inv hb).2

/-- what must hold where a function ends -/
def EndOk (s : S) (out : Out) (rs : List ARes) : AExit → St → Prop
  | .exit _, _ => False
  | _, st => ∃ r, ressV st rs = some r ∧ s.nxt + out.n ≤ st.s.nxt ∧ LeR (s.nxt + out.n) st.s r out.v ∧ LeSto (s.nxt + out.n) st.s (asets s.sto out.ob)

theorem fnInfo_spec {f : FuncId} {n : Nat} {ac : ACode} {rs : List ARes} (h : fnInfo P f = some (n, ac, rs)) : ∃ fn c, P.funcs[f]? = some fn ∧ fn.body = some c ∧ resC P c = some ac ∧ fn.results.toList.mapM (resR P) = some rs ∧ codeOk n c = true ∧ fn.ntmps = n ∧ HasB P f := by
  unfold fnInfo at h
  split at h
  · rename_i fn hfn
    split at h
    · rename_i c hc
      split at h
      · rename_i a r h1 h2
        split at h
        · rename_i hok
          simp at h
          obtain ⟨rfl, rfl, rfl⟩ := h
          simp only [Bool.and_eq_true, Bool.not_eq_true'] at hok
          refine ⟨fn, c, hfn, hc, h1, h2, hok.1, rfl, fun args w => ?_⟩
          simp only [callFunc]
          simp [program, Sem.run, hfn, hc]
          have := hok.2
          simp at this
          simp [this]
        · cases h
      · cases h
    · cases h
  · cases h

theorem FnOk.of_sat {f : FuncId} {n : Nat} {ac : ACode} {rs : List ARes} {vs : List V} {s : S} {out : Out} (hi : fnInfo P f = some (n, ac.bare, rs)) (hm : P.follows .mixedOrders = true) (hn : vs.length ≤ n)
    (h : Sat P n s.nxt ac { env := entryE 0 vs, s := s } (EndOk s out rs)) : FnOk P f vs s out := by
  obtain ⟨fn, c, h1, h2, h3, h4, h5, h6, h7⟩ := fnInfo_spec hi
  refine ⟨h7, fun Λ args hs hx hsz hargs => ?_⟩
  refine calls_of_wp h1 h2 ?_
  have hrel : Rel { P := P, n := n, Λ := Λ } Λ { env := entryE 0 vs, s := s } { tmps := args ++ Array.replicate (fn.ntmps - args.size) undef, defers := [] } := by
    refine ⟨Kp.refl _, by simp [h6]; omega, rfl, fun t => ?_, hs⟩
    simp only
    rw [look_entry, if_pos (Nat.zero_le _), Nat.sub_zero]
    cases hv : vs[t]? with
    | none => exact .top
    | some x =>
      have hlt : t < args.size := by rw [hsz]; exact (List.getElem?_eq_some_iff.1 hv).1
      have he : (args ++ Array.replicate (fn.ntmps - args.size) undef).getD t undef = args[t] := by
        rw [Array.getD_eq_getD_getElem?, Array.getElem?_append_left hlt]; simp [hlt]
      rw [he]
      exact hargs t args[t] x (by simp [hlt]) hv
  refine wp_mono (h c h3 h5 hm { P := P, n := n, Λ := Λ } Λ _ rfl rfl hx hrel hx) fun e a' w' hp => ?_
  obtain ⟨x, st', Λ', k1, k2, k3, k4, rfl⟩ := hp
  have fin : (∃ r, ressV st' rs = some r ∧ s.nxt + out.n ≤ st'.s.nxt ∧ LeR (s.nxt + out.n) st'.s r out.v ∧ LeSto (s.nxt + out.n) st'.s (asets s.sto out.ob)) →
      a'.defers = [] ∧ ∃ v, (results fn a'.tmps).run P Λ'.w = .ok v Λ'.w ∧ ∃ v' Λ'', Ending.returned v = .returned v' ∧ Λ''.w = Λ'.w ∧ Kp Λ Λ'' ∧ Λ''.nxt = s.nxt + out.n ∧ RelS Λ'' ⟨asets s.sto out.ob, 0⟩ ∧ RelV Λ'' v' out.v := by
    rintro ⟨r, e1, e2, e3, e4⟩
    obtain ⟨v, f1, f2⟩ := run_results k3 h4 e1
    refine ⟨k3.defers, v, f1, v, Λ'.cut (s.nxt + out.n) (s.nxt + out.n), rfl, rfl, k3.kp.cut (by simp; omega) (Nat.le_refl _), rfl, ?_, e3 Λ' v (by omega) k3.s f2⟩
    exact e4 Λ' (by omega) k3.s
  cases e with
  | normal => simp [exitOf] at k1; subst k1; exact fin k2
  | ret => simp [exitOf] at k1; subst k1; exact fin k2
  | exit id => simp [exitOf] at k1; subst k1; exact k2.elim
  | goto l => simp [exitOf] at k1
  | panic ch => simp [exitOf] at k1
  | outgrown => simp [exitOf] at k1

/-- objects and growing arrays out of sight -/
def L.hide (Λ : L) : L where
  lab := fun b => match Λ.lab b with
    | .obj _ => .fix (some 0)
    | .arr _ fr => .fix (some fr)
    | .fob _ _ => .fix (some 0)
    | .far _ _ fr => .fix (some fr)
    | x => x
  fro := fun _ => 0
  nxt := 0
  w := Λ.w
  frf := fun _ _ => 0

theorem hide_lab (Λ : L) (b : Nat) : ∃ fr, Λ.hide.lab b = .fix fr := by
  simp only [L.hide]
  cases Λ.lab b with
  | fix fr => exact ⟨_, rfl⟩
  | obj k => exact ⟨_, rfl⟩
  | arr k n => exact ⟨_, rfl⟩
  | fob k i => exact ⟨_, rfl⟩
  | far k i n => exact ⟨_, rfl⟩

theorem hide_rd {Λ : L} {b o : Nat} : Rd Λ.hide.lab b o ↔ Rd Λ.lab b o := by
  unfold Rd
  simp only [L.hide]
  cases Λ.lab b with
  | fix fr => exact Iff.rfl
  | obj k => simp
  | arr k n => simp
  | fob k i => simp
  | far k i n => simp

theorem RepT.hide {Λ : L} {v : Value} {x : T} (h : RepT Λ.lab Λ.w v x) : RepT Λ.hide.lab Λ.hide.w v x := h.keep fun _ _ _ _ hr => ⟨hide_rd.2 hr, rfl⟩

theorem RelV.hide {Λ : L} {v : Value} {x : V} (h : RelV Λ v x) (hb : x.bd 0 = true) : RelV Λ.hide v x := by
  induction h with
  | t h => exact .t h.hide
  | nils => exact .nils
  | own _ _ _ _ _ => simp [V.bd] at hb
  | slc _ _ _ => simp [V.bd] at hb
  | agg hs _ ih => exact .agg hs fun j v c h1 h2 => ih j v c h1 h2 (V.bds_at (by simpa [V.bd] using hb) j c h2)
  | tup hs _ ih => exact .tup hs fun j v c h1 h2 => ih j v c h1 h2 (V.bds_at (by simpa [V.bd] using hb) j c h2)
  | ptr _ _ => simp [V.bd] at hb
  | mp _ _ => simp [V.bd] at hb
  | @fn f vs cs hs h =>
    refine .fn hs fun j v c h1 h2 => ?_
    simp only [V.bd, List.all_eq_true] at hb
    have := hb c (List.mem_of_getElem? h2)
    simp at this
  | gd _ h' ih => exact .gd (fun hc => ih hc (by simpa [V.bd] using hb)) h'
  | top => exact .top
  | ub h h' => exact .ub h h'
  | ui => exact .ui
  | fpt _ _ => simp [V.bd] at hb
  | gpt _ _ _ _ => simp [V.bd] at hb
  | gsl _ _ _ _ => simp [V.bd] at hb
  | fow _ _ _ _ _ => simp [V.bd] at hb

theorem RelS.hide {Λ : L} {sto : List (Nat × AObj)} (h : RelS Λ ⟨sto, Λ.nxt⟩) : RelS Λ.hide ⟨[], 0⟩ := by
  refine ⟨by simp [aget], fun b b' k h1 => ?_, fun b hb => ?_, fun b k hb => ?_, fun _ _ => rfl, fun b b' k i h1 => ?_, fun b k hb => ?_, fun _ _ _ => rfl⟩
  · obtain ⟨fr, e⟩ := hide_lab Λ b; rw [e] at h1; simp at h1
  · simp only [L.hide, h.new b hb]
  · obtain ⟨fr, e⟩ := hide_lab Λ b; rw [e] at hb; simp at hb
  · obtain ⟨fr, e⟩ := hide_lab Λ b; rw [e] at h1; simp at h1
  · obtain ⟨fr, e⟩ := hide_lab Λ b; rw [e] at hb; simp at hb

/-- the labels behind a call that was handed no objects -/
def L.back (Λ Λ' : L) : L where
  lab := fun b => if b < Λ.w.heap.size then Λ.lab b else Λ'.lab b
  fro := Λ.fro
  nxt := Λ.nxt
  w := Λ'.w
  frf := Λ.frf

/-- A function that is handed no objects, called in any store. -/
theorem FnOk.pure {f : FuncId} {vs : List V} {x : V} {base : Nat} {s : List (Nat × AObj)} (h : FnOk P f vs ⟨[], 0⟩ { v := x }) (hb : V.bds 0 vs = true) (hx : x.bd 0 = true) : FnAt P f vs base s { v := x } := by
  refine ⟨h.1, by simp, fun Λ args hs _ _ hsz hargs => ?_⟩
  refine (h.2 Λ.hide args hs.hide rfl hsz fun j v y h1 h2 => (hargs j v y h1 h2).hide (V.bds_at hb j y h2)).mono fun e w' he => ?_
  obtain ⟨v, Λ', rfl, rfl, k1, k2, k3, k4⟩ := he
  simp only [asets, Nat.add_zero] at k2 k3
  have hnl : ∀ b, ∃ fr, Λ'.lab b = .fix fr := by
    intro b
    cases hl : Λ'.lab b with
    | fix fr => exact ⟨fr, rfl⟩
    | obj k => have := k3.bnd b k (.inl hl); omega
    | arr k n => have := k3.bnd b k (.inr ⟨n, hl⟩); omega
    | fob k i => have := k3.bndF b k (.inl ⟨i, hl⟩); omega
    | far k i n => have := k3.bndF b k (.inr ⟨i, n, hl⟩); omega
  have hold : ∀ b, b < Λ.w.heap.size → Λ'.lab b = Λ.hide.lab b ∧ Λ'.w.heap[b]? = Λ.w.heap[b]? := by
    intro b hb
    obtain ⟨fr, e⟩ := hide_lab Λ b
    obtain ⟨e1, e2⟩ := k1.fr.fix b hb fr e
    exact ⟨by rw [e1, e], e2⟩
  have hlt : ∀ {b : Nat}, b < Λ.w.heap.size → (Λ.back Λ').lab b = Λ.lab b := fun h => by simp [L.back, h]
  have hlow : ∀ {b : Nat} {x : Lab}, Λ.lab b = x → x ≠ .fix none → b < Λ.w.heap.size := by
    intro b x hl hx
    rcases Nat.lt_or_ge b Λ.w.heap.size with h | h
    · exact h
    · rw [hs.new b h] at hl; exact absurd hl.symm hx
  have hinv : ∀ b, (∀ fr, (Λ.back Λ').lab b ≠ .fix fr) → (Λ.back Λ').lab b = Λ.lab b := by
    intro b hb
    rcases Nat.lt_or_ge b Λ.w.heap.size with h | h
    · exact hlt h
    · exfalso
      obtain ⟨fr, e⟩ := hnl b
      exact hb fr (by simp [L.back, Nat.not_lt.2 h, e])
  have hinv' : ∀ {b : Nat} {x : Lab}, (Λ.back Λ').lab b = x → (∀ fr, x ≠ .fix fr) → Λ.lab b = x := by
    intro b x hl hx
    rw [← hl]; exact (hinv b (fun fr e => hx fr (hl.symm.trans e))).symm
  have hgo : ∀ {b : Nat} {x : Lab}, Λ.lab b = x → x ≠ .fix none → (Λ.back Λ').lab b = x ∧ (Λ.back Λ').w.heap[b]? = Λ.w.heap[b]? := by
    intro b x hl hx
    have hb := hlow hl hx
    exact ⟨by rw [hlt hb]; exact hl, (hold b hb).2⟩
  have hkp : Kp Λ (Λ.back Λ') := by
    refine ⟨⟨k1.fr.os, k1.fr.tape, k1.fr.output, k1.fr.size, fun b hb fr hl => ⟨by rw [hlt hb]; exact hl, (hold b hb).2⟩, fun b hb k fr hl o ho => ⟨by simp only [Rd, hlt hb, hl]; exact ho, cell?_heap (hold b hb).2⟩, fun b hb k i fr hl o ho => ⟨by simp only [Rd, hlt hb, hl]; exact ho, cell?_heap (hold b hb).2⟩⟩, Nat.le_refl _, fun b k _ hl => (hgo hl (by simp)).1, fun b k n _ hb hl _ => ⟨by rw [hlt hb]; exact hl, (hold b hb).2⟩, fun _ _ => Nat.le_refl _,
      fun b k i _ hl => ⟨(hgo hl (by simp)).1, fun N hN => by unfold rowSize at hN ⊢; rw [(hgo hl (by simp)).2]; exact hN⟩, fun b k i n _ hb hl _ => hgo hl (by simp), fun _ _ _ => Nat.le_refl _, fun b k i _ _ _ hl => hinv' hl (by simp)⟩
  have hF : FKeep Λ (Λ.back Λ') := ⟨fun b k i => ⟨fun hl => hinv' hl (by simp), fun hl => (hgo hl (by simp)).1⟩, fun b k i n => ⟨fun hl => hinv' hl (by simp), fun hl => (hgo hl (by simp)).1⟩, rfl, fun b k i hl => (hgo hl (by simp)).2, fun b k i n _ hl => (hgo hl (by simp)).2⟩
  refine ⟨v, Λ.back Λ', rfl, rfl, hkp, rfl, ?_, ?_, fun k hk _ _ => hk.keep hF (fun b hb => hk.obj b (hinv' hb (by simp))) (fun b n hb => hk.arr b n (hinv' hb (by simp))) hk.fro⟩
  · refine hs.step hkp rfl (fun k o ho => .inl ⟨ho, fun b hb => (hgo hb (by simp)).2, rfl⟩) (fun b b' k h1 h2 => hs.inj b b' k (hinv' h1 (by simp)) (hinv' h2 (by simp))) (fun b hb => ?_) (fun b k hb => ?_) hs.frz hF
    · have hsz : Λ.w.heap.size ≤ b := Nat.le_trans k1.fr.size hb
      have : (Λ.back Λ').lab b = Λ'.lab b := by simp [L.back, Nat.not_lt.2 hsz]
      rw [this]; exact k3.new b hb
    · rcases hb with hb | ⟨n, hb⟩
      · exact hs.bnd b k (.inl (hinv' hb (by simp)))
      · exact hs.bnd b k (.inr ⟨n, hinv' hb (by simp)⟩)
  · have hrep : ∀ {u : Value} {y : T}, RepT Λ'.lab Λ'.w u y → RepT (Λ.back Λ').lab (Λ.back Λ').w u y := by
      intro u y hy
      refine hy.keep fun b o _ _ hr => ⟨?_, rfl⟩
      rcases Nat.lt_or_ge b Λ.w.heap.size with h | h
      · unfold Rd; rw [hlt h]
        have : Rd Λ'.lab b o := hr
        unfold Rd at this; rw [(hold b h).1] at this
        exact hide_rd.1 this
      · have e : (Λ.back Λ').lab b = Λ'.lab b := by simp [L.back, Nat.not_lt.2 h]
        unfold Rd; rw [e]; exact hr
    clear hb h
    simp only at k4 ⊢
    generalize x = y at k4 hx
    induction k4 with
    | t h => exact .t (hrep h)
    | nils => exact .nils
    | own _ _ _ _ _ => simp [V.bd] at hx
    | slc _ _ _ => simp [V.bd] at hx
    | agg hs _ ih => exact .agg hs fun j v c h1 h2 => ih j v c h1 h2 (V.bds_at (by simpa [V.bd] using hx) j c h2)
    | tup hs _ ih => exact .tup hs fun j v c h1 h2 => ih j v c h1 h2 (V.bds_at (by simpa [V.bd] using hx) j c h2)
    | ptr _ _ => simp [V.bd] at hx
    | mp _ _ => simp [V.bd] at hx
    | @fn f vs cs hs h =>
      refine .fn hs fun j v c h1 h2 => ?_
      simp only [V.bd, List.all_eq_true] at hx
      have := hx c (List.mem_of_getElem? h2)
      simp at this
    | gd _ h' ih => exact .gd (fun hc => ih hc (by simpa [V.bd] using hx)) h'
    | top => exact .top
    | ub h h' => exact .ub h h'
    | ui => exact .ui
    | fpt _ _ => simp [V.bd] at hx
    | gpt _ _ _ _ => simp [V.bd] at hx
    | gsl _ _ _ _ => simp [V.bd] at hx
    | fow _ _ _ _ _ => simp [V.bd] at hx

/-- names from m on out of sight -/
def L.hideFrom (Λ : L) (m : Nat) : L where
  lab := fun b => match Λ.lab b with
    | .obj k => if k < m then .obj k else .fix (some 0)
    | .arr k fr => if k < m then .arr k fr else .fix (some fr)
    | .fob k i => if k < m then .fob k i else .fix (some 0)
    | .far k i fr => if k < m then .far k i fr else .fix (some fr)
    | x => x
  fro := fun k => if k < m then Λ.fro k else 0
  nxt := m
  w := Λ.w
  frf := fun k i => if k < m then Λ.frf k i else 0

/-- is a block of a name from m on? -/
def L.high (Λ : L) (m b : Nat) : Bool :=
  match Λ.lab b with
  | .obj k => decide (m ≤ k)
  | .arr k _ => decide (m ≤ k)
  | .fob k _ => decide (m ≤ k)
  | .far k _ _ => decide (m ≤ k)
  | _ => false

theorem hf_low {Λ : L} {m b : Nat} (h : Λ.high m b = false) : (Λ.hideFrom m).lab b = Λ.lab b := by
  unfold L.high at h
  simp only [L.hideFrom]
  cases hl : Λ.lab b with
  | fix fr => rfl
  | obj k => rw [hl] at h; simp at h; simp [h]
  | arr k fr => rw [hl] at h; simp at h; simp [h]
  | fob k i => rw [hl] at h; simp at h; simp [h]
  | far k i fr => rw [hl] at h; simp at h; simp [h]
theorem hf_high {Λ : L} {m b : Nat} (h : Λ.high m b = true) : ∃ fr, (Λ.hideFrom m).lab b = .fix (some fr) ∧ ((∃ k, Λ.lab b = .obj k ∧ m ≤ k ∧ fr = 0) ∨ (∃ k, Λ.lab b = .arr k fr ∧ m ≤ k) ∨ (∃ k i, Λ.lab b = .fob k i ∧ m ≤ k ∧ fr = 0) ∨ ∃ k i, Λ.lab b = .far k i fr ∧ m ≤ k) := by
  unfold L.high at h
  simp only [L.hideFrom]
  cases hl : Λ.lab b with
  | fix fr => rw [hl] at h; simp at h
  | obj k => rw [hl] at h; simp at h; exact ⟨0, by simp; omega, .inl ⟨k, rfl, h, rfl⟩⟩
  | arr k fr => rw [hl] at h; simp at h; exact ⟨fr, by simp; omega, .inr (.inl ⟨k, rfl, h⟩)⟩
  | fob k i => rw [hl] at h; simp at h; exact ⟨0, by simp; omega, .inr (.inr (.inl ⟨k, i, rfl, h, rfl⟩))⟩
  | far k i fr => rw [hl] at h; simp at h; exact ⟨fr, by simp; omega, .inr (.inr (.inr ⟨k, i, rfl, h⟩))⟩
theorem hf_rd {Λ : L} {m b o : Nat} : Rd (Λ.hideFrom m).lab b o ↔ Rd Λ.lab b o := by
  cases hh : Λ.high m b with
  | false => unfold Rd; rw [hf_low hh]
  | true =>
    obtain ⟨fr, h1, h2⟩ := hf_high hh
    unfold Rd
    rcases h2 with ⟨k, e, _, rfl⟩ | ⟨k, e, _⟩ | ⟨k, i, e, _, rfl⟩ | ⟨k, i, e, _⟩ <;> rw [h1, e] <;> simp
theorem hf_obj {Λ : L} {m b k : Nat} (h : Λ.lab b = .obj k) (hk : k < m) : (Λ.hideFrom m).lab b = .obj k := by simp [L.hideFrom, h, hk]
theorem hf_arr {Λ : L} {m b k n : Nat} (h : Λ.lab b = .arr k n) (hk : k < m) : (Λ.hideFrom m).lab b = .arr k n := by simp [L.hideFrom, h, hk]
theorem hf_obj_inv {Λ : L} {m b k : Nat} (h : (Λ.hideFrom m).lab b = .obj k) : Λ.lab b = .obj k ∧ k < m := by
  simp only [L.hideFrom] at h
  cases hl : Λ.lab b with
  | fix fr => simp [hl] at h
  | obj j => simp only [hl] at h; split at h <;> simp_all
  | arr j n => simp only [hl] at h; split at h <;> simp_all
  | fob j n => simp only [hl] at h; split at h <;> simp_all
  | far j n q => simp only [hl] at h; split at h <;> simp_all
theorem hf_fob {Λ : L} {m b k i : Nat} (h : Λ.lab b = .fob k i) (hk : k < m) : (Λ.hideFrom m).lab b = .fob k i := by simp [L.hideFrom, h, hk]
theorem hf_far {Λ : L} {m b k i n : Nat} (h : Λ.lab b = .far k i n) (hk : k < m) : (Λ.hideFrom m).lab b = .far k i n := by simp [L.hideFrom, h, hk]
theorem hf_fob_inv {Λ : L} {m b k i : Nat} (h : (Λ.hideFrom m).lab b = .fob k i) : Λ.lab b = .fob k i ∧ k < m := by
  simp only [L.hideFrom] at h
  cases hl : Λ.lab b with
  | fix fr => simp [hl] at h
  | obj j => simp only [hl] at h; split at h <;> simp_all
  | arr j n => simp only [hl] at h; split at h <;> simp_all
  | fob j n => simp only [hl] at h; split at h <;> simp_all
  | far j n q => simp only [hl] at h; split at h <;> simp_all
theorem hf_far_inv {Λ : L} {m b k i n : Nat} (h : (Λ.hideFrom m).lab b = .far k i n) : Λ.lab b = .far k i n ∧ k < m := by
  simp only [L.hideFrom] at h
  cases hl : Λ.lab b with
  | fix fr => simp [hl] at h
  | obj j => simp only [hl] at h; split at h <;> simp_all
  | arr j n => simp only [hl] at h; split at h <;> simp_all
  | fob j n => simp only [hl] at h; split at h <;> simp_all
  | far j n q => simp only [hl] at h; split at h <;> simp_all
theorem hf_arr_inv {Λ : L} {m b k n : Nat} (h : (Λ.hideFrom m).lab b = .arr k n) : Λ.lab b = .arr k n ∧ k < m := by
  simp only [L.hideFrom] at h
  cases hl : Λ.lab b with
  | fix fr => simp [hl] at h
  | obj j => simp only [hl] at h; split at h <;> simp_all
  | arr j n => simp only [hl] at h; split at h <;> simp_all
  | fob j n => simp only [hl] at h; split at h <;> simp_all
  | far j n q => simp only [hl] at h; split at h <;> simp_all

theorem RepT.hf {Λ : L} {m : Nat} {v : Value} {x : T} (h : RepT Λ.lab Λ.w v x) : RepT (Λ.hideFrom m).lab (Λ.hideFrom m).w v x := h.keep fun _ _ _ _ hr => ⟨hf_rd.2 hr, rfl⟩

theorem RelV.hf {Λ : L} {m : Nat} {v : Value} {x : V} (h : RelV Λ v x) (hb : x.bd m = true) : RelV (Λ.hideFrom m) v x := by
  induction h with
  | t h => exact .t h.hf
  | nils => exact .nils
  | @own v k sz xs h hsz hl hn ho =>
    have hk : k < m := by simpa [V.bd] using hb
    have hf : (Λ.hideFrom m).fro k = Λ.fro k := by simp [L.hideFrom, hk]
    refine .own h.hf hsz hk (by rw [hf]; exact hn) fun he => ?_
    rcases ho (by rw [← hf]; exact he) with ho | ⟨b, cap, arr, e, hv, hb', hh, hc, hn'⟩
    · exact .inl ho
    · exact .inr ⟨b, cap, arr, e, hv, hf_arr hb' hk, hh, hc, hn'⟩
  | @slc b k off len cap sz hl hc h => have hk : k < m := by simpa [V.bd] using hb
                                       exact .slc hk hc (hf_obj h hk)
  | agg hs _ ih => exact .agg hs fun j v c h1 h2 => ih j v c h1 h2 (V.bds_at (by simpa [V.bd] using hb) j c h2)
  | tup hs _ ih => exact .tup hs fun j v c h1 h2 => ih j v c h1 h2 (V.bds_at (by simpa [V.bd] using hb) j c h2)
  | @ptr b k off hl h => have hk : k < m := by simpa [V.bd] using hb
                         exact .ptr hk (hf_obj h hk)
  | @mp b k hl h => have hk : k < m := by simpa [V.bd] using hb
                    exact .mp hk (hf_obj h hk)
  | fn hs h =>
    refine .fn hs fun j v c h1 h2 => ?_
    obtain ⟨b, e1, e2, e3⟩ := h j v c h1 h2
    have hk : c.1 < m := by
      simp only [V.bd, List.all_eq_true, decide_eq_true_eq] at hb
      exact hb c (List.mem_of_getElem? h2)
    exact ⟨b, e1, hf_obj e2 hk, hk⟩
  | gd _ h' ih => exact .gd (fun hc => ih hc (by simpa [V.bd] using hb)) h'
  | top => exact .top
  | ub h h' => exact .ub h h'
  | ui => exact .ui
  | @fpt b k i off hl h => have hk : k < m := by simpa [V.bd] using hb
                           exact .fpt hk (hf_fob h hk)
  | @gpt v k ver off hv hl hn h =>
    have hk : k < m := by simpa [V.bd] using hb
    have hf : (Λ.hideFrom m).frf k 0 = Λ.frf k 0 := by simp [L.hideFrom, hk]
    refine .gpt hv hk (by rw [hf]; exact hn) fun he => ?_
    obtain ⟨b, e1, i, e2, e3⟩ := h (by rw [← hf]; exact he)
    exact ⟨b, e1, i, hf_fob e2 hk, fun b' i' h' => e3 b' i' (hf_fob_inv h').1⟩
  | @gsl v k ver off len sz hv hl hn h =>
    have hk : k < m := by simpa [V.bd] using hb
    have hf : (Λ.hideFrom m).frf k 0 = Λ.frf k 0 := by simp [L.hideFrom, hk]
    refine .gsl hv hk (by rw [hf]; exact hn) fun he => ?_
    rcases h (by rw [← hf]; exact he) with h | ⟨b, cap, N, hv, hc, ⟨i, e2, e3⟩, hN, he'⟩
    · exact .inl h
    · exact .inr ⟨b, cap, N, hv, hc, ⟨i, hf_fob e2 hk, fun b' i' h' => e3 b' i' (hf_fob_inv h').1⟩, hN, he'⟩
  | @fow v k i sz xs h hsz hl hn ho =>
    have hk : k < m := by simpa [V.bd] using hb
    have hf : (Λ.hideFrom m).frf k i = Λ.frf k i := by simp [L.hideFrom, hk]
    refine .fow h.hf hsz hk (by rw [hf]; exact hn) fun he => ?_
    rcases ho (by rw [← hf]; exact he) with ho | ⟨b, cap, arr, e, hv, hb', hh, hc, hn'⟩
    · exact .inl ho
    · exact .inr ⟨b, cap, arr, e, hv, hf_far hb' hk, hh, hc, hn'⟩

theorem RelS.hf {Λ : L} {m : Nat} {sto : List (Nat × AObj)} (h : RelS Λ ⟨sto, Λ.nxt⟩) (hs : stoBd m sto = true) : RelS (Λ.hideFrom m) ⟨sto, m⟩ := by
  refine ⟨fun k o hk => ?_, fun b b' k h1 h2 => h.inj b b' k (hf_obj_inv h1).1 (hf_obj_inv h2).1, fun b hb => ?_, fun b k hb => ?_, fun k hk => ?_, fun b b' k i h1 h2 => h.injF b b' k i (hf_fob_inv h1).1 (hf_fob_inv h2).1, fun b k hb => ?_, fun k i hk => ?_⟩
  · obtain ⟨h1, h2⟩ := stoBd_at hs k o hk
    refine ⟨h1, ?_⟩
    have hr := (h.sto k o hk).2
    cases o with
    | cells cs =>
      obtain ⟨b, arr, e, e1, e2, e3, e4⟩ := hr
      exact ⟨b, arr, e, hf_obj e1 h1, e2, e3, fun j v c a1 a2 => (e4 j v c a1 a2).hf (V.bds_at (by simpa [AObj.bd] using h2) j c a2)⟩
    | map kag es sx =>
      obtain ⟨b, ents, clock, e1, e2, e3⟩ := hr
      exact ⟨b, ents, clock, hf_obj e1 h1, e2, e3.keep (fun _ _ h => h.hf) (fun i kv v hi hv => hv.hf (V.bds_at (by simpa [AObj.bd] using h2) i kv.2 (by simp [hi])))⟩
    | arr n => unfold RelO at *; simp [L.hideFrom, h1, hr]
    | iter q s seen c =>
      have hq : q < m := by simpa [AObj.bd] using h2
      obtain ⟨b, bm, e1, e2, e3, e4⟩ := hr
      exact ⟨b, bm, hf_obj e1 h1, e2, hf_obj e3 hq, hq⟩
    | gro r cs =>
      obtain ⟨h0, hr⟩ := hr
      refine ⟨by simp [L.hideFrom, h1, h0], ?_⟩
      rcases hr with ⟨e1, e2⟩ | ⟨b, arr, e, ⟨i, e1, e1'⟩, e2, e3, e4⟩
      · exact .inl ⟨e1, fun b i hb => e2 b i (hf_fob_inv hb).1⟩
      · exact .inr ⟨b, arr, e, ⟨i, hf_fob e1 h1, fun b' i' h' => e1' b' i' (hf_fob_inv h').1⟩, e2, e3, fun j v c a1 a2 => (e4 j v c a1 a2).hf (V.bds_at (by simpa [AObj.bd] using h2) j c a2)⟩
    | fobs os =>
      obtain ⟨h0, hr⟩ := hr
      refine ⟨fun b i hbi => h0 b i (hf_fob_inv hbi).1, fun i cs hi => ?_⟩
      obtain ⟨b, arr, e, e1, e2, e3, e4⟩ := hr i cs hi
      have hbs : V.bds m cs = true := by
        have := h2; simp only [AObj.bd, List.all_eq_true] at this
        exact this cs (List.mem_of_getElem? hi)
      exact ⟨b, arr, e, hf_fob e1 h1, e2, e3, fun j v c a1 a2 => (e4 j v c a1 a2).hf (V.bds_at hbs j c a2)⟩
    | farr ns => intro i; have := hr i; simpa [L.hideFrom, h1] using this
    | memo kag I =>
      obtain ⟨b, ents, clock, e1, e2, e3, e4, e5⟩ := hr
      refine ⟨b, ents, clock, hf_obj e1 h1, e2, e3, e4, fun i e hi => ?_⟩
      obtain ⟨cs, v, g1, g2, g3⟩ := e5 i e hi
      exact ⟨cs, v, g1.keep fun _ _ h => h.hf, g2.hf, g3⟩
    | abs J => exact ⟨hr.1, by simp [L.hideFrom, h1, hr.2.1], hr.1 _ _ _ _ _ _ (fun _ _ h => h.hf) (fun b i => ⟨fun h => hf_fob h h1, fun h => (hf_fob_inv h).1⟩) (fun _ _ _ => rfl) hr.2.2⟩
  · simp only [L.hideFrom, h.new b hb]
  · rcases hb with hb | ⟨n, hb⟩
    · exact (hf_obj_inv hb).2
    · exact (hf_arr_inv hb).2
  · have hk' : m ≤ k := hk
    simp [L.hideFrom]; omega
  · rcases hb with ⟨i, hb⟩ | ⟨i, n, hb⟩
    · exact (hf_fob_inv hb).2
    · exact (hf_far_inv hb).2
  · have hk' : m ≤ k := hk
    simp [L.hideFrom]; omega

end
end Go.GB


/-
  GbW: the rules as a walk uses them.
-/
namespace Go.GB
section
variable {P : Program} {n m : Nat} {st : St} {Q : AExit → St → Prop}

theorem Sat.ite {z : Ar} {a b : ACode} {t : Bool} (hz : z.v st = .t (.bool t)) (h1 : t = true → Sat P n m a st Q) (h2 : t = false → Sat P n m b st Q) : Sat P n m (.cond z a b) st Q := by
  refine Sat.cond hz ?_
  cases t with
  | true => exact h1 rfl
  | false => exact h2 rfl

/-- a call of a function that is handed no objects and hands none back -/
theorem callPure {f : FuncId} {vs : List V} {x : V} {base : Nat} {sto : List (Nat × AObj)} {K : Out → Prop} (h : FnOk P f vs ⟨[], 0⟩ { v := x }) (hb : V.bds 0 vs = true) (hx : x.bd 0 = true) (hk : K { v := x }) : FnEv P f vs base sto K :=
  ⟨{ v := x }, by simp only [Bool.false_eq_true, if_false]; exact fun s => h.pure hb hx, hk⟩

theorem guardSplit {gc : Bool} {op : AOp} {base : Nat} {K : Out → Prop} (h1 : gc = true → evX P base st K op) (h2 : gc = false → K { v := .gd false .top, rd := looksE st op }) : guardX P gc base st K op := .inr ⟨fun hg => .inl (h1 hg), h2⟩

theorem EndOk.pure {rs : List ARes} {x r : V} (h : ressV st rs = some r) (hr : LeR 0 st.s r x) : EndOk ⟨[], 0⟩ { v := x } rs .ret st := ⟨r, h, Nat.zero_le _, hr, .le trivial⟩
/-- the end of a function that is handed no objects -/
theorem EndOk.go {rs : List ARes} {x : V} (h : match ressV st rs with | some r => LeR 0 st.s r x | none => False) : EndOk ⟨[], 0⟩ { v := x } rs .ret st := by
  cases hr : ressV st rs with
  | none => rw [hr] at h; exact h.elim
  | some r => rw [hr] at h; exact ⟨r, hr, Nat.zero_le _, h, .le trivial⟩

/-- the end of a function that reads objects and leaves them as they are -/
theorem EndOk.same {s : S} {rs : List ARes} {x : V} {rd : Bool} (hsto : st.s.sto = s.sto) (hn : s.nxt ≤ st.s.nxt) (hs : stoBd s.nxt s.sto = true) (h : match ressV st rs with | some r => LeR s.nxt st.s r x | none => False) : EndOk s { v := x, rd := rd } rs .ret st := by
  cases hr : ressV st rs with
  | none => rw [hr] at h; exact h.elim
  | some r => rw [hr] at h; exact ⟨r, hr, hn, h, .same fun k o hk => ⟨by rw [hsto]; exact hk, stoBd_at hs k o hk⟩⟩

theorem LeR.t {m : Nat} {s : S} {x y : T} (h : x = y) : LeR m s (.t x) (.t y) := .le (.tEq h)
theorem LeR.own {m : Nat} {s : S} {k sz : Nat} {xs ys : List (List T)} (h : xs = ys) : LeR m s (.own k sz xs) (.t (.lst ys)) := .le (h ▸ .ownT)
theorem LeR.nil {m : Nat} {s : S} {ys : List (List T)} (h : [] = ys) : LeR m s .nils (.t (.lst ys)) := .le (h ▸ .nilT)
theorem LeR.tup2 {m : Nat} {s : S} {a b c d : V} (h1 : LeR m s a c) (h2 : LeR m s b d) : LeR m s (.tup [a, b]) (.tup [c, d]) := .tup (.cons h1 (.cons h2 .nil))
end

theorem wrap64 {x : Int} (h1 : -9223372036854775808 ≤ x) (h2 : x ≤ 9223372036854775807) : IntKind.i64.wrap x = x := by rw [IntKind.wrap_i64]; omega

theorem drop_at {α : Type} {l : List α} {i : Nat} {x : α} {r : List α} (h : l.drop i = x :: r) : l[i]? = some x ∧ l.drop (i + 1) = r ∧ i < l.length := by
  have h1 : l[i]? = some x := by
    have := List.getElem?_drop (xs := l) (i := i) (j := 0)
    rw [h] at this; simpa using this.symm
  refine ⟨h1, ?_, (List.getElem?_eq_some_iff.1 h1).1⟩
  rw [← List.drop_drop, h]; rfl
theorem drop_end {α : Type} {l : List α} {i : Nat} (h : l.drop i = []) : l.length ≤ i := List.drop_eq_nil_iff.1 h

end Go.GB


/-
  C35Code: the code of chapter 35's functions as abstract code (printed by program).
-/
namespace Go.GB.K
abbrev m (d x : Nat) : AO := ⟨some d, none, .mv (.s x)⟩
abbrev f (d k x : Nat) : AO := ⟨some d, none, .fa k (.s x)⟩
abbrev l (d x : Nat) : AO := ⟨some d, none, .ld false 1 (.s x)⟩
abbrev jL (d n x : Nat) : AO := ⟨some d, none, .ld true n (.s x)⟩
abbrev n (d x : Nat) : AO := ⟨some d, none, .nilck (.s x)⟩
abbrev i (d z x y : Nat) : AO := ⟨some d, none, .ia z (.s x) (.s y)⟩
abbrev e (d x : Nat) : AO := ⟨some d, none, .len (.s x)⟩
abbrev x (d s k : Nat) : AO := ⟨some d, none, .ext (.s s) k⟩
abbrev o (d : Nat) (p : AOp) : AO := ⟨some d, none, p⟩
abbrev jO (p : AOp) : AO := ⟨none, none, p⟩
abbrev b (d : Nat) (p : BinOp) (x y : Nat) : AO := ⟨some d, none, .bin p (.s x) (.s y)⟩
abbrev jB (d : Nat) (p : BinOp) (x : Nat) (y : Int) : AO := ⟨some d, none, .bin p (.s x) (.c (.t (.int .i64 y)))⟩
abbrev p (d c a : Nat) : AO := ⟨some d, none, .pick (.s c) (.s a) (.c (.t (.bool false)))⟩
abbrev q (d c a : Nat) : AO := ⟨some d, none, .pick (.s c) (.c (.t (.bool true))) (.s a)⟩
abbrev u (d x : Nat) : AO := ⟨some d, none, .un .not (.s x)⟩
abbrev jI (d : Nat) (k : Int) : AO := ⟨some d, none, .cst (.t (.int .i64 k))⟩
abbrev gm (d g : Nat) (x : Nat) : AO := ⟨some d, some (g, true), .mv (.s x)⟩
abbrev hm (d g : Nat) (x : Nat) : AO := ⟨some d, some (g, false), .mv (.s x)⟩
abbrev gf (d g : Nat) (k x : Nat) : AO := ⟨some d, some (g, true), .fa k (.s x)⟩
abbrev hf (d g : Nat) (k x : Nat) : AO := ⟨some d, some (g, false), .fa k (.s x)⟩
abbrev gl (d g : Nat) (x : Nat) : AO := ⟨some d, some (g, true), .ld false 1 (.s x)⟩
abbrev hl (d g : Nat) (x : Nat) : AO := ⟨some d, some (g, false), .ld false 1 (.s x)⟩
abbrev gL (d g : Nat) (n x : Nat) : AO := ⟨some d, some (g, true), .ld true n (.s x)⟩
abbrev hL (d g : Nat) (n x : Nat) : AO := ⟨some d, some (g, false), .ld true n (.s x)⟩
abbrev gi (d g : Nat) (z x y : Nat) : AO := ⟨some d, some (g, true), .ia z (.s x) (.s y)⟩
abbrev hi (d g : Nat) (z x y : Nat) : AO := ⟨some d, some (g, false), .ia z (.s x) (.s y)⟩
abbrev ge (d g : Nat) (x : Nat) : AO := ⟨some d, some (g, true), .len (.s x)⟩
abbrev he (d g : Nat) (x : Nat) : AO := ⟨some d, some (g, false), .len (.s x)⟩
abbrev go (d g : Nat) (p : AOp) : AO := ⟨some d, some (g, true), p⟩
abbrev ho (d g : Nat) (p : AOp) : AO := ⟨some d, some (g, false), p⟩
abbrev gb (d g : Nat) (p : BinOp) (x y : Nat) : AO := ⟨some d, some (g, true), .bin p (.s x) (.s y)⟩
abbrev hb (d g : Nat) (p : BinOp) (x y : Nat) : AO := ⟨some d, some (g, false), .bin p (.s x) (.s y)⟩
abbrev gB (d g : Nat) (p : BinOp) (x : Nat) (y : Int) : AO := ⟨some d, some (g, true), .bin p (.s x) (.c (.t (.int .i64 y)))⟩
abbrev hB (d g : Nat) (p : BinOp) (x : Nat) (y : Int) : AO := ⟨some d, some (g, false), .bin p (.s x) (.c (.t (.int .i64 y)))⟩
abbrev jR (p : List AO) (l : List Nat) : ACode := .region false p [] l
abbrev jD (p : List AO) (a : List (List Nat)) (l : List Nat) : ACode := .region true p a l
abbrev jS (a b : ACode) : ACode := .seq a b
abbrev jX (p : List AO) (l : List Nat) : ACode := .seq (.region false p [] l) .ret
abbrev jC (t : Nat) (a b : ACode) : ACode := .cond (.s t) a b
abbrev jN (k : Int) : V := .t (.int .i64 k)
end Go.GB.K
namespace Go.GB.C35
open Go.GB Go.GB.K
def c3_1:ACode:=jR [m 40 10,jB 41 .add 40 1,m 10 41] [1,5,7,9,10]
def c3_4:ACode:=jS (jR [m 77 11,u 78 77,m 79 78,hm 80 79 5,ho 81 79 (.call 12 [(.s 80)]),hm 82 79 7,ho 83 79 (.call 13 [(.s 82)]),hb 84 79 .neq 81 83,q 85 79 84,m 86 85,hm 87 86 5,ho 88 86 (.call 14 [(.s 87)]),hm 89 86 7,ho 90 86 (.call 15 [(.s 89)]),hb 91 86 .neq 88 90,q 92 86 91] [1,5,7,9,10,92]) (jC 92 (jX [o 4 (.cst (.t (.bool false)))] [4]) .skip)
def c3_5:ACode:=jS (jR [m 67 5,m 68 7,m 69 1,m 70 10,i 71 8 69 70,jL 72 8 71,m 73 9,o 74 (.call 11 [(.s 67),(.s 68),(.s 72),(.s 73)]),m 66 74,x 75 66 0,x 76 66 1,m 11 75,m 9 76] [1,5,7,9,10,11]) c3_4
def c3_6:ACode:=jS (jR [o 11 (.cst (.t (.bool false)))] [1,5,7,9,10]) c3_5
def c3_9:ACode:=jS (jS (jR [m 42 1,m 43 10,i 44 8 42 43,f 45 3 44,jL 46 5 45,o 47 (.call 9 [(.s 46)]),jB 48 .gtr 47 50,m 49 48,hm 50 49 1,hm 51 49 10,hi 52 49 8 50 51,hf 53 49 2 52,hl 54 49 53,hB 55 49 .gtr 54 100,q 56 49 55,m 57 56,hm 58 57 1,hm 59 57 10,hi 60 57 8 58 59,hf 61 57 2 60,hl 62 57 61,hB 63 57 .lss 62 (-100),q 64 57 63] [1,5,7,9,10,64]) (jC 64 (jX [o 65 (.call 10 []),m 4 65] [4]) .skip)) c3_6
def c3_12:ACode:=jS (jS (jR [m 32 10,m 33 1,e 34 33,b 35 .lss 32 34,m 36 35,gm 37 36 10,gB 38 36 .lss 37 100,p 39 36 38] [1,5,7,9,10,39]) (jC 39 .skip (.exit 0))) (jS (.block 1 c3_9) c3_1)
def c3_15:ACode:=jS (jS (jR [jI 10 0] [1,5,7,9,10]) (.block 0 (.loop c3_12))) (jX [o 93 (.call 10 []),m 4 93] [4])
def c3_19:ACode:=jS (jS (jR [m 22 6,m 23 8,b 24 .neq 22 23,m 25 24,hm 26 25 5,ho 27 25 (.eqp false (.s 26)),hm 28 25 7,ho 29 25 (.eqp false (.s 28)),ho 30 25 (.eqb true (.s 27) (.s 29)),q 31 25 30] [1,5,7,31]) (jC 31 (jX [o 4 (.cst (.t (.bool false)))] [4]) .skip)) (jS (jR [jI 9 0] [1,5,7,9]) c3_15)
def c3_20:ACode:=jS (jR [m 18 0,o 19 (.call 8 [(.s 18)]),m 17 19,x 20 17 0,x 21 17 1,m 7 20,m 8 21] [1,5,6,7,8]) c3_19
def c3_21:ACode:=jS (jR [m 13 0,o 14 (.call 7 [(.s 13)]),m 12 14,x 15 12 0,x 16 12 1,m 5 15,m 6 16] [0,1,5,6]) c3_20
def c3:ACode:=jS (jR [o 4 (.cst (.t (.bool false)))] [0,1]) c3_21
def r3:List ARes:=[.tmp 4]
def n3:Nat:=94
def c7_0:ACode:=jX [m 10 0,o 11 (.mkmap false false),o 12 (.build [jN 0,.t (.nilm),jN 0,jN 0] [(0,1,(.s 10)),(1,1,(.s 11))]),o 13 (.box 4 (.s 12)),m 2 13,jI 3 0] [2,3]
def c7_3:ACode:=jS (jS (jR [m 4 0,jB 5 .lss 4 1,m 6 5,hm 7 6 0,hB 8 6 .gtr 7 1024,q 9 6 8] [0,9]) (jC 9 (jX [o 2 (.cst (.t (.nilp))),jI 3 2] [2,3]) .skip)) c7_0
def c7:ACode:=jS (jR [o 2 (.cst (.t (.nilp))),jI 3 0] [0]) c7_3
def r7:List ARes:=[.tmp 2,.tmp 3]
def n7:Nat:=14
def c8_0:ACode:=jX [m 10 0,o 11 (.build [jN 0,.nils,.nils,jN 0,jN 0] [(0,1,(.s 10))]),o 12 (.box 5 (.s 11)),m 2 12,jI 3 0] [2,3]
def c8_3:ACode:=jS (jS (jR [m 4 0,jB 5 .lss 4 1,m 6 5,hm 7 6 0,hB 8 6 .gtr 7 1024,q 9 6 8] [0,9]) (jC 9 (jX [o 2 (.cst (.t (.nilp))),jI 3 2] [2,3]) .skip)) c8_0
def c8:ACode:=jS (jR [o 2 (.cst (.t (.nilp))),jI 3 0] [0]) c8_3
def r8:List ARes:=[.tmp 2,.tmp 3]
def n8:Nat:=13
def c9_2:ACode:=jR [m 12 3,f 13 3 1,l 14 13,m 15 4,i 16 5 14 15,jL 17 5 16,o 18 (.call 9 [(.s 17)]),b 19 .add 12 18,m 3 19] [1,3,4]
def c9_5:ACode:=jS (jS (jR [m 5 4,f 6 3 1,l 7 6,e 8 7,b 9 .lss 5 8] [1,3,4,9]) (jC 9 .skip (.exit 0))) (jS (.block 1 c9_2) (jR [m 10 4,jB 11 .add 10 1,m 4 11] [1,3,4]))
def c9:ACode:=jS (jR [o 1 (.box 5 (.s 0)),jI 2 0] [1]) (jS (jR [jI 3 1] [1,3]) (jS (jS (jR [jI 4 0] [1,3,4]) (.block 0 (.loop c9_5))) (jX [m 20 3,m 2 20] [2])))
def r9:List ARes:=[.tmp 2]
def n9:Nat:=21
def c10_0:ACode:=jX [m 57 5,jB 58 .eql 57 0,m 59 58,gm 60 59 7,gB 61 59 .eql 60 1,p 62 59 61,m 63 62,gm 64 63 9,gB 65 63 .eql 64 2,p 66 63 65,m 67 66,gm 68 67 12,p 69 67 68,m 70 69,gm 71 70 11,gL 72 70 5 3,gL 73 70 5 4,go 74 70 (.bsl true 5 [[.int .i64 0,.int .i64 0,.str [],.lst [],.lst []],[.int .i64 0,.int .i64 0,.str [],.lst [],.lst []]] [(0,(.s 72)),(1,(.s 73))]),go 75 70 (.call 24 [(.s 71),(.s 74)]),p 76 70 75,m 77 76,gm 78 77 13,gB 79 77 .eql 78 0,p 80 77 79,m 81 80,gm 82 81 15,p 83 81 82,m 84 83,gf 85 84 1 14,gl 86 84 85,gB 87 84 .eql 86 1,p 88 84 87,m 89 88,gm 90 89 1,go 91 89 (.call 12 [(.s 90)]),gB 92 89 .eql 91 1,p 93 89 92,m 94 93,gm 95 94 1,go 96 94 (.call 14 [(.s 95)]),gB 97 94 .eql 96 1,p 98 94 97,m 0 98] [0]
def c10_1:ACode:=jS (jR [m 53 1,o 54 (.call 19 [(.s 53),(.c (jN 0)),(.c (jN 2))]),m 52 54,x 55 52 0,x 56 52 1,o 14 (.alloc [jN 0,jN 0,.t (.str []),.nils,.nils]),jO (.st 5 (.s 14) (.s 55)),m 15 56] [1,3,4,5,7,9,11,12,13,14,15]) c10_0
def c10_2:ACode:=jS (jR [m 47 1,o 48 (.call 25 [(.c (jN 1))]),o 49 (.call 25 [(.c (jN 2))]),o 50 (.bsl true 5 [[.int .i64 0,.int .i64 0,.str [],.lst [],.lst []],[.int .i64 0,.int .i64 0,.str [],.lst [],.lst []]] [(0,(.s 48)),(1,(.s 49))]),o 51 (.call 18 [(.s 47),(.c (jN 0)),(.s 50)]),m 13 51] [1,3,4,5,7,9,11,12,13]) c10_1
def c10_3:ACode:=jS (jR [m 43 1,o 44 (.call 17 [(.s 43),(.c (jN 0))]),m 42 44,x 45 42 0,x 46 42 1,m 11 45,m 12 46] [1,3,4,5,7,9,11,12]) c10_2
def c10_4:ACode:=jS (jR [m 37 1,jL 38 5 3,o 39 (.call 16 [(.s 37),(.c (jN 0)),(.s 38)]),m 36 39,x 40 36 0,x 41 36 1,m 9 40,m 10 41] [1,3,4,5,7,9]) c10_3
def c10_5:ACode:=jS (jR [m 31 1,jL 32 5 4,o 33 (.call 16 [(.s 31),(.c (jN 0)),(.s 32)]),m 30 33,x 34 30 0,x 35 30 1,m 7 34,m 8 35] [1,3,4,5,7]) c10_4
def c10_6:ACode:=jS (jR [m 25 1,jL 26 5 3,o 27 (.call 16 [(.s 25),(.c (jN 0)),(.s 26)]),m 24 27,x 28 24 0,x 29 24 1,m 5 28,m 6 29] [1,3,4,5]) c10_5
def c10_9:ACode:=jS (jS (jR [m 22 2,jB 23 .neq 22 0] [1,3,4,23]) (jC 23 (jX [o 0 (.cst (.t (.bool false)))] [0]) .skip)) c10_6
def c10_10:ACode:=jS (jR [o 20 (.call 25 [(.c (jN 7))]),o 21 (.call 26 [(.c (.t (.str [98])))]),o 3 (.alloc [jN 0,jN 0,.t (.str []),.nils,.nils]),o 4 (.alloc [jN 0,jN 0,.t (.str []),.nils,.nils]),jO (.st 5 (.s 3) (.s 20)),jO (.st 5 (.s 4) (.s 21))] [1,2,3,4]) c10_9
def c10_11:ACode:=jS (jR [o 17 (.call 7 [(.c (jN 2))]),m 16 17,x 18 16 0,x 19 16 1,m 1 18,m 2 19] [1,2]) c10_10
def c10:ACode:=jS (jR [o 0 (.cst (.t (.bool false)))] []) c10_11
def r10:List ARes:=[.tmp 0]
def n10:Nat:=99
def c11_0:ACode:=jX [m 130 21,m 131 23,o 132 (.eqb false (.s 130) (.s 131)),m 133 132,gL 134 133 5 20,gL 135 133 5 22,go 136 133 (.call 20 [(.s 134),(.s 135)]),p 137 133 136,m 138 3,m 8 137,m 9 138] [8,9]
def c11_1:ACode:=jS (jR [m 122 1,f 123 1 6,l 124 123,f 125 2 6,l 126 125,o 127 (.call 30 [(.s 122),(.s 124),(.s 126)]),m 121 127,x 128 121 0,x 129 121 1,o 22 (.alloc [jN 0,jN 0,.t (.str []),.nils,.nils]),jO (.st 5 (.s 22) (.s 128)),m 23 129] [3,20,21,22,23]) c11_0
def c11_2:ACode:=jS (jR [m 113 0,f 114 1 6,l 115 114,f 116 2 6,l 117 116,o 118 (.call 19 [(.s 113),(.s 115),(.s 117)]),m 112 118,x 119 112 0,x 120 112 1,o 20 (.alloc [jN 0,jN 0,.t (.str []),.nils,.nils]),jO (.st 5 (.s 20) (.s 119)),m 21 120] [1,3,6,20,21]) c11_1
def c11_3:ACode:=jX [m 46 10,m 47 12,b 48 .eql 46 47,m 49 48,gm 50 49 11,gm 51 49 13,gb 52 49 .eql 50 51,p 53 49 52,m 54 3,m 8 53,m 9 54] [8,9]
def c11_4:ACode:=jS (jR [m 38 1,f 39 1 6,l 40 39,f 41 3 6,jL 42 5 41,o 43 (.call 27 [(.s 38),(.s 40),(.s 42)]),m 37 43,x 44 37 0,x 45 37 1,m 12 44,m 13 45] [3,10,11,12,13]) c11_3
def c11_5:ACode:=jS (jR [m 29 0,f 30 1 6,l 31 30,f 32 3 6,jL 33 5 32,o 34 (.call 16 [(.s 29),(.s 31),(.s 33)]),m 28 34,x 35 28 0,x 36 28 1,m 10 35,m 11 36] [1,3,6,10,11]) c11_4
def c11_6:ACode:=jX [m 71 15,m 72 17,o 73 (.eqb false (.s 71) (.s 72)),m 74 73,gm 75 74 14,gm 76 74 16,go 77 74 (.call 24 [(.s 75),(.s 76)]),p 78 74 77,m 79 16,e 80 79,m 8 78,m 9 80] [8,9]
def c11_7:ACode:=jS (jR [m 65 1,f 66 1 6,l 67 66,o 68 (.call 28 [(.s 65),(.s 67)]),m 64 68,x 69 64 0,x 70 64 1,m 16 69,m 17 70] [14,15,16,17]) c11_6
def c11_8:ACode:=jS (jR [m 58 0,f 59 1 6,l 60 59,o 61 (.call 17 [(.s 58),(.s 60)]),m 57 61,x 62 57 0,x 63 57 1,m 14 62,m 15 63] [1,6,14,15]) c11_7
def c11_9:ACode:=jS (jD [m 100 0,f 101 1 6,l 102 101,m 103 18,o 104 (.call 18 [(.s 100),(.s 102),(.s 103)]),m 105 1,f 106 1 6,l 107 106,m 108 18,o 109 (.call 29 [(.s 105),(.s 107),(.s 108)]),b 110 .eql 104 109,m 111 3,m 8 110,m 9 111] [[],[],[1],[],[0,2,3],[],[],[6],[],[5,7,8,4],[4,9],[],[10,9,0,1,2,3,4,5,6,7,8,9,10],[11,12,0,1,2,3,4,5,6,7,8,9,10,11,12]] [8,9]) .ret
def c11_10:ACode:=jR [m 89 19,jB 90 .add 89 1,m 19 90] [0,1,3,6,18,19]
def c11_11:ACode:=jD [m 91 18,f 92 3 6,jL 93 5 92,m 94 19,o 95 (.call 25 [(.s 94)]),o 96 (.bsl true 5 [[.int .i64 0,.int .i64 0,.str [],.lst [],.lst []],[.int .i64 0,.int .i64 0,.str [],.lst [],.lst []]] [(0,(.s 93)),(1,(.s 95))]),o 97 (.call 23 [(.s 96)]),o 98 (.bsl false 5 [[.int .i64 0,.int .i64 0,.str [],.lst [],.lst []]] [(0,(.s 97))]),o 99 (.app 5 80 (.s 91) (.s 98)),m 18 99] [[],[],[1],[],[3],[2,4],[5,4],[6],[0,7,6],[8,8,0,1,2,3,4,5,6,7,8]] [0,1,3,6,18,19]
def c11_14:ACode:=jS (jS (jR [m 83 19,m 84 3,f 85 2 6,l 86 85,b 87 .add 84 86,b 88 .lss 83 87] [0,1,3,6,18,19,88]) (jC 88 .skip (.exit 1))) (jS (.block 2 c11_11) c11_10)
def c11_17:ACode:=jS (jS (jR [jI 19 0] [0,1,3,6,18,19]) (.block 1 (.loop c11_14))) c11_9
def c11_18:ACode:=jS (jR [o 18 (.cst (.nils))] [0,1,3,6,18]) c11_17
def c11_20:ACode:=jS (jR [jB 82 .eql 25 2,m 81 82] [0,1,3,6,81]) (jC 81 c11_18 .skip)
def c11_22:ACode:=jS (jR [jB 56 .eql 25 1,m 55 56] [0,1,3,6,25,55]) (jC 55 c11_8 c11_20)
def c11_24:ACode:=jS (jR [jB 27 .eql 25 0,m 26 27] [0,1,3,6,25,26]) (jC 26 c11_5 c11_22)
def c11_26:ACode:=jS (jS (jR [f 24 0 6,l 25 24] [0,1,3,6,25]) (.block 0 c11_24)) c11_2
def c11:ACode:=jS (jR [o 6 (.box 8 (.s 2)),o 8 (.cst (.t (.bool false))),jI 9 0] [0,1,3,6]) c11_26
def r11:List ARes:=[.tmp 8,.tmp 9]
def n11:Nat:=139
def c12_3:ACode:=jS (jS (jR [m 3 0,o 4 (.call 31 [(.s 3)])] [0,4]) (jC 4 (jX [jI 2 0] [2]) .skip)) (jX [m 5 0,n 6 5,f 7 2 6,l 8 7,m 2 8] [2])
def c12:ACode:=jS (jR [jI 2 0] [0]) c12_3
def r12:List ARes:=[.tmp 2]
def n12:Nat:=9
def c13_3:ACode:=jS (jS (jR [m 3 0,o 4 (.eqp false (.s 3))] [0,4]) (jC 4 (jX [jI 2 0] [2]) .skip)) (jX [m 5 0,n 6 5,f 7 3 6,l 8 7,m 2 8] [2])
def c13:ACode:=jS (jR [jI 2 0] [0]) c13_3
def r13:List ARes:=[.tmp 2]
def n13:Nat:=9
def c14_3:ACode:=jS (jS (jR [m 3 0,o 4 (.call 31 [(.s 3)])] [0,4]) (jC 4 (jX [jI 2 0] [2]) .skip)) (jX [m 5 0,n 6 5,f 7 3 6,l 8 7,m 2 8] [2])
def c14:ACode:=jS (jR [jI 2 0] [0]) c14_3
def r14:List ARes:=[.tmp 2]
def n14:Nat:=9
def c15_3:ACode:=jS (jS (jR [m 3 0,o 4 (.eqp false (.s 3))] [0,4]) (jC 4 (jX [jI 2 0] [2]) .skip)) (jX [m 5 0,n 6 5,f 7 4 6,l 8 7,m 2 8] [2])
def c15:ACode:=jS (jR [jI 2 0] [0]) c15_3
def r15:List ARes:=[.tmp 2]
def n15:Nat:=9
def c16_0:ACode:=jX [m 90 8,n 91 90,f 92 0 91,l 93 92,e 94 93,jB 95 .sub 94 1,m 6 95,jI 7 0] [6,7]
def c16_1:ACode:=jS (jR [m 80 8,m 81 8,n 82 81,f 83 0 82,l 84 83,m 85 9,o 86 (.bsl false 1 [[.int .i64 0]] [(0,(.s 85))]),o 87 (.app 1 8 (.s 84) (.s 86)),n 88 80,f 89 0 88,jO (.st 1 (.s 89) (.s 87))] [8]) c16_0
def c16_2:ACode:=jD [m 60 8,m 61 8,n 62 61,f 63 1 62,l 64 63,jL 65 5 5,o 66 (.call 33 [(.s 65)]),o 67 (.build [jN 0,jN 0,.t (.str []),.nils,.nils,jN 0,jN 0,.t (.str []),.nils,.nils,.t (.bool false)] [(0,5,(.s 66))]),o 68 (.box 11 (.s 67)),o 69 (.bsl false 1 [[.nilp]] [(0,(.s 68))]),o 70 (.app 1 8 (.s 64) (.s 69)),n 71 60,f 72 1 71,jO (.st 1 (.s 72) (.s 70))] [[],[],[1],[2],[3],[],[5],[6],[7],[8],[4,9,6],[0,0,1,2,3,4,5,6,7,8,9,10],[11,0,1,2,3,4,5,6,7,8,9,10],[12,10,10,0,1,2,3,4,5,6,7,8,9,10]] [8,9]
def c16_3:ACode:=jS (jR [m 55 8,n 56 55,f 57 1 56,l 58 57,e 59 58,m 9 59] [5,8,9]) c16_2
def c16_4:ACode:=jR [m 73 0,n 74 73,f 75 3 74,l 76 75,jB 77 .add 76 1,n 78 73,f 79 3 78,jO (.st 1 (.s 79) (.s 77))] [8,9]
def c16_6:ACode:=jS (jS (jR [m 53 9,jB 54 .lss 53 0] [0,5,8,9,54]) (jC 54 c16_3 c16_4)) c16_1
def c16_7:ACode:=jR [jB 52 .add 40 1,m 40 52] [0,5,8,9,38,39,40]
def c16_8:ACode:=jS (jR [m 51 10,m 9 51] [0,5,8,9]) (.exit 1)
def c16_10:ACode:=jS (jD [m 45 11,n 46 45,f 47 0 46,jL 48 5 47,jL 49 5 5,o 50 (.call 32 [(.s 48),(.s 49)])] [[],[0],[1],[2],[],[3,4]] [0,5,8,9,10,38,39,40,50]) (jC 50 c16_8 .skip)
def c16_11:ACode:=jS (jR [m 42 40,i 43 1 38 40,l 44 43,m 10 42,m 11 44] [0,5,8,9,10,11,38,39,40]) c16_10
def c16_14:ACode:=jS (jR [b 41 .lss 40 39] [0,5,8,9,38,39,40,41]) (jS (jC 41 .skip (.exit 1)) (jS (.block 2 c16_11) c16_7))
def c16_17:ACode:=jS (jS (jR [m 35 8,n 36 35,f 37 1 36,l 38 37,e 39 38,jI 40 0] [0,5,8,9,38,39,40]) (.block 1 (.loop c16_14))) c16_6
def c16_19:ACode:=jR [m 29 0,n 30 29,f 31 1 30,l 32 31,m 33 1,m 34 8,jO (.nw (.mupd [.int .i64] false (.s 32) (.s 33) (.s 34)))] [0,5,8]
def c16_20:ACode:=jS (jR [o 26 (.mkmap false false),o 27 (.build [.nils,.nils,jN 0,.t (.nilm)] [(3,1,(.s 26))]),o 28 (.box 4 (.s 27)),m 8 28] [0,1,5,8]) c16_19
def c16_22:ACode:=jS (jS (jR [m 24 8,o 25 (.eqp false (.s 24))] [0,1,5,8,25]) (jC 25 c16_20 .skip)) (jS (jR [jI 9 (-1)] [0,5,8,9]) c16_17)
def c16_23:ACode:=jS (jR [m 18 0,n 19 18,f 20 1 19,l 21 20,m 22 1,o 23 (.nw (.lookup [.int .i64] false (.t (.nilp)) false (.s 21) (.s 22))),m 8 23] [0,1,5,8]) c16_22
def c16_27:ACode:=jS (jR [m 16 1,jB 17 .lss 16 0,m 15 17] [0,1,5,15]) (jC 15 (jX [jI 6 0,jI 7 2] [6,7]) .skip)
def c16_29:ACode:=jS (jR [m 13 0,o 14 (.call 31 [(.s 13)]),m 12 14] [0,1,5,12]) (jC 12 (jX [jI 6 0,jI 7 1] [6,7]) c16_27)
def c16:ACode:=jS (jR [o 5 (.box 5 (.s 2)),jI 6 0,jI 7 0] [0,1,5]) (jS (.block 0 c16_29) c16_23)
def r16:List ARes:=[.tmp 6,.tmp 7]
def n16:Nat:=96
def c17_0:ACode:=jX [m 115 7,m 4 115,o 5 (.cst (.t (.bool true)))] [4,5]
def c17_2:ACode:=jR [m 101 7,m 102 6,n 103 102,f 104 3 103,l 105 104,m 106 8,o 107 (.nw (.lookup [.int .i64] false (.t (.nilp)) false (.s 105) (.s 106))),n 108 107,f 109 0 108,jL 110 5 109,o 111 (.call 33 [(.s 110)]),o 112 (.bsl false 5 [[.int .i64 0,.int .i64 0,.str [],.lst [],.lst []]] [(0,(.s 111))]),o 113 (.app 5 80 (.s 101) (.s 112)),m 7 113] [6,7,97,98]
def c17_3:ACode:=jS (jR [m 100 98,m 8 100] [6,7,8,97,98]) c17_2
def c17_6:ACode:=jS (jR [b 99 .lss 98 97] [6,7,97,98,99]) (jS (jC 99 .skip (.exit 2)) (jS (.block 3 c17_3) (jR [jB 114 .add 98 1,m 98 114] [6,7,97,98])))
def c17_9:ACode:=jS (jS (jR [m 93 6,n 94 93,f 95 3 94,l 96 95,o 97 (.lenm (.s 96)),jI 98 0] [6,7,97,98]) (.block 2 (.loop c17_6))) c17_0
def c17_11:ACode:=jR [m 86 0,n 87 86,f 88 2 87,l 89 88,jB 90 .add 89 1,n 91 86,f 92 2 91,jO (.st 1 (.s 92) (.s 90))] [6]
def c17_12:ACode:=jX [o 4 (.cst (.nils)),o 5 (.cst (.t (.bool false)))] [4,5]
def c17_14:ACode:=jS (jS (jR [m 80 6,n 81 80,f 82 3 81,l 83 82,o 84 (.lenm (.s 83)),jB 85 .eql 84 0] [0,6,85]) (jC 85 c17_12 .skip)) c17_11
def c17_15:ACode:=jR [m 73 6,n 74 73,f 75 2 74,l 76 75,jB 77 .add 76 1,n 78 73,f 79 2 78,jO (.st 1 (.s 79) (.s 77))] [0,6]
def c17_16:ACode:=jS (jD [m 54 6,n 55 54,f 56 3 55,l 57 56,m 58 6,n 59 58,f 60 3 59,l 61 60,o 62 (.lenm (.s 61)),m 63 6,n 64 63,f 65 1 64,l 66 65,m 67 6,n 68 67,f 69 2 68,l 70 69,i 71 1 66 70,l 72 71,jO (.nw (.mupd [.int .i64] false (.s 57) (.s 62) (.s 72)))] [[],[0],[1],[2],[],[4],[5],[6],[7],[],[9],[10],[11],[],[13],[14],[15],[12,16],[17],[3,8,18,8,0,1,2,3,4,5,6,7,8,9,10,11,12,13,14,15,16,17,18]] [0,6]) c17_15
def c17_19:ACode:=jS (jS (jD [m 32 6,n 33 32,f 34 3 33,l 35 34,o 36 (.lenm (.s 35)),m 37 0,n 38 37,f 39 0 38,l 40 39,b 41 .lss 36 40,m 42 41,gm 43 42 6,go 44 42 (.nilck (.s 43)),gf 45 42 2 44,gl 46 42 45,gm 47 42 6,go 48 42 (.nilck (.s 47)),gf 49 42 1 48,gl 50 42 49,ge 51 42 50,gb 52 42 .lss 46 51,p 53 42 52] [[],[0],[1],[2],[3],[],[5],[6],[7],[4,8],[9,4],[10],[11,10],[12,10],[13,10],[10],[15,10],[16,10],[17,10],[18,10],[14,19,10],[10,20]] [0,6,53]) (jC 53 .skip (.exit 0))) (.block 1 c17_16)
def c17_23:ACode:=jS (jS (jR [m 26 6,n 27 26,f 28 3 27,l 29 28,o 30 (.lenm (.s 29)),jB 31 .eql 30 0] [0,6,31]) (jC 31 (jS (.block 0 (.loop c17_19)) c17_14) .skip)) (jS (jR [o 7 (.cst (.nils))] [6,7]) c17_9)
def c17_24:ACode:=jS (jR [m 20 0,n 21 20,f 22 1 21,l 23 22,m 24 1,o 25 (.nw (.lookup [.int .i64] false (.t (.nilp)) false (.s 23) (.s 24))),m 6 25] [0,6]) c17_23
def c17_25:ACode:=jX [o 4 (.cst (.nils)),o 5 (.cst (.t (.bool false)))] [4,5]
def c17_27:ACode:=jS (jS (jR [m 9 0,o 10 (.call 31 [(.s 9)]),m 11 10,hm 12 11 0,ho 13 11 (.nilck (.s 12)),hf 14 11 1 13,hl 15 11 14,hm 16 11 1,ho 17 11 (.nw (.lookup [.int .i64] false (.t (.nilp)) false (.s 15) (.s 16))),ho 18 11 (.eqp false (.s 17)),q 19 11 18] [0,1,19]) (jC 19 c17_25 .skip)) c17_24
def c17:ACode:=jS (jR [o 4 (.cst (.nils)),o 5 (.cst (.t (.bool false)))] [0,1]) c17_27
def r17:List ARes:=[.tmp 4,.tmp 5]
def n17:Nat:=116
def c18_1:ACode:=jS (jR [m 74 7,n 75 74,f 76 3 75,l 77 76,jO (.nw (.mclr (.s 77)))] []) (jX [jI 6 0] [6])
def c18_3:ACode:=jD [m 55 7,n 56 55,f 57 3 56,l 58 57,m 59 8,o 60 (.nw (.lookup [.int .i64] false (.t (.nilp)) false (.s 58) (.s 59))),m 61 7,n 62 61,f 63 3 62,l 64 63,m 65 8,o 66 (.nw (.lookup [.int .i64] false (.t (.nilp)) false (.s 64) (.s 65))),jL 67 5 9,o 68 (.call 33 [(.s 67)]),n 69 60,f 70 5 69,jO (.st 5 (.s 70) (.s 68)),n 71 66,f 72 10 71,jO (.st 1 (.s 72) (.c (.t (.bool true))))] [[],[0],[1],[2],[],[3,4],[],[6],[7],[8],[],[9,10],[],[12],[5,0,1,2,3,4,5,9,11,12,13],[14,0,1,2,3,4,5,9,11,12,13],[15,13,13,0,1,2,3,4,5,9,11,12,13],[11,0,1,2,3,4,5,6,7,8,9,10,11,12,13,14,15,16],[17,0,1,2,3,4,5,6,7,8,9,10,11,12,13,14,15,16],[18,16,0,1,2,3,4,5,6,7,8,9,10,11,12,13,14,15,16]] [7,48,49,50]
def c18_4:ACode:=jS (jR [m 52 50,i 53 5 48 50,jL 54 5 53,o 9 (.alloc [jN 0,jN 0,.t (.str []),.nils,.nils]),m 8 52,jO (.st 5 (.s 9) (.s 54))] [7,8,9,48,49,50]) c18_3
def c18_7:ACode:=jS (jR [b 51 .lss 50 49] [7,48,49,50,51]) (jS (jC 51 .skip (.exit 1)) (jS (.block 2 c18_4) (jR [jB 73 .add 50 1,m 50 73] [7,48,49,50])))
def c18_10:ACode:=jS (jS (jR [m 48 2,e 49 48,jI 50 0] [7,48,49,50]) (.block 1 (.loop c18_7))) c18_1
def c18_13:ACode:=jS (jS (jR [m 40 2,e 41 40,m 42 7,n 43 42,f 44 3 43,l 45 44,o 46 (.lenm (.s 45)),b 47 .neq 41 46] [2,7,47]) (jC 47 (jX [jI 6 2] [6]) .skip)) c18_10
def c18_14:ACode:=jS (jR [m 34 0,n 35 34,f 36 1 35,l 37 36,m 38 1,o 39 (.nw (.lookup [.int .i64] false (.t (.nilp)) false (.s 37) (.s 38))),m 7 39] [2,7]) c18_13
def c18_18:ACode:=jS (jR [m 14 0,n 15 14,f 16 1 15,l 17 16,m 18 1,o 19 (.nw (.lookup [.int .i64] false (.t (.nilp)) false (.s 17) (.s 18))),o 20 (.eqp false (.s 19)),m 21 20,hm 22 21 0,ho 23 21 (.nilck (.s 22)),hf 24 21 1 23,hl 25 21 24,hm 26 21 1,ho 27 21 (.nw (.lookup [.int .i64] false (.t (.nilp)) false (.s 25) (.s 26))),ho 28 21 (.nilck (.s 27)),hf 29 21 3 28,hl 30 21 29,ho 31 21 (.lenm (.s 30)),hB 32 21 .eql 31 0,q 33 21 32,m 13 33] [0,1,2,13]) (jC 13 (jX [jI 6 12] [6]) .skip)
def c18_20:ACode:=jS (jR [m 11 0,o 12 (.call 31 [(.s 11)]),m 10 12] [0,1,2,10]) (jC 10 (jX [jI 6 1] [6]) c18_18)
def c18:ACode:=jS (jR [jI 6 0] [0,1,2]) (jS (.block 0 c18_20) c18_14)
def r18:List ARes:=[.tmp 6]
def n18:Nat:=78
def c19_0:ACode:=jX [m 65 9,n 66 65,f 67 5 66,jL 68 5 67,o 69 (.call 33 [(.s 68)]),jO (.st 5 (.s 6) (.s 69)),o 7 (.cst (.t (.bool true)))] [6,7]
def c19_1:ACode:=jX [o 64 (.build [jN 0,jN 0,.t (.str []),.nils,.nils] []),jO (.st 5 (.s 6) (.s 64)),o 7 (.cst (.t (.bool false)))] [6,7]
def c19_3:ACode:=jS (jS (jR [m 59 9,n 60 59,f 61 10 60,l 62 61,u 63 62] [6,9,63]) (jC 63 c19_1 .skip)) c19_0
def c19_4:ACode:=jS (jD [m 46 8,n 47 46,f 48 1 47,l 49 48,m 50 8,n 51 50,f 52 0 51,l 53 52,m 54 2,i 55 1 53 54,l 56 55,i 57 1 49 56,l 58 57,m 9 58] [[],[0],[1],[2],[],[4],[5],[6],[],[7,8],[9],[3,10],[11],[12,0,1,2,3,4,5,6,7,8,9,10,11,12]] [6,9]) c19_3
def c19_5:ACode:=jS (jR [m 40 0,n 41 40,f 42 1 41,l 43 42,m 44 1,o 45 (.nw (.lookup [.int .i64] false (.t (.nilp)) false (.s 43) (.s 44))),m 8 45] [2,6,8]) c19_4
def c19_6:ACode:=jX [o 39 (.build [jN 0,jN 0,.t (.str []),.nils,.nils] []),jO (.st 5 (.s 6) (.s 39)),o 7 (.cst (.t (.bool false)))] [6,7]
def c19_8:ACode:=jS (jS (jR [m 10 0,o 11 (.call 31 [(.s 10)]),m 12 11,hm 13 12 0,ho 14 12 (.nilck (.s 13)),hf 15 12 1 14,hl 16 12 15,hm 17 12 1,ho 18 12 (.nw (.lookup [.int .i64] false (.t (.nilp)) false (.s 16) (.s 17))),ho 19 12 (.eqp false (.s 18)),q 20 12 19,m 21 20,hm 22 21 2,hB 23 21 .lss 22 0,q 24 21 23,m 25 24,hm 26 25 2,hm 27 25 0,ho 28 25 (.nilck (.s 27)),hf 29 25 1 28,hl 30 25 29,hm 31 25 1,ho 32 25 (.nw (.lookup [.int .i64] false (.t (.nilp)) false (.s 30) (.s 31))),ho 33 25 (.nilck (.s 32)),hf 34 25 0 33,hl 35 25 34,he 36 25 35,hb 37 25 .geq 26 36,q 38 25 37] [0,1,2,6,38]) (jC 38 c19_6 .skip)) c19_5
def c19:ACode:=jS (jR [o 6 (.alloc [jN 0,jN 0,.t (.str []),.nils,.nils]),o 7 (.cst (.t (.bool false)))] [0,1,2,6]) c19_8
def r19:List ARes:=[.cell 6 true 5,.tmp 7]
def n19:Nat:=70
def c20_0:ACode:=jX [jL 5 5 2,jL 6 5 3,o 7 (.call 34 [(.s 5),(.s 6)]),jB 8 .eql 7 0,m 4 8] [4]
def c20:ACode:=jS (jR [o 2 (.box 5 (.s 0)),o 3 (.box 5 (.s 1)),o 4 (.cst (.t (.bool false)))] [2,3]) c20_0
def r20:List ARes:=[.tmp 4]
def n20:Nat:=9
def c23_0:ACode:=jS (jR [m 3 0,o 4 (.call 35 [(.s 3)]),o 5 (.build [jN 0,jN 0,.t (.str []),.nils,.nils] [(0,1,(.c (jN 5))),(3,1,(.s 4))]),jO (.st 5 (.s 2) (.s 5))] [2]) .ret
def c23:ACode:=jS (jR [o 2 (.alloc [jN 0,jN 0,.t (.str []),.nils,.nils])] [0,2]) c23_0
def r23:List ARes:=[.cell 2 true 5]
def n23:Nat:=6
def c24_4:ACode:=jS (jD [m 17 0,m 18 5,i 19 5 17 18,jL 20 5 19,m 21 1,m 22 5,i 23 5 21 22,jL 24 5 23,o 25 (.call 20 [(.s 20),(.s 24)]),u 26 25] [[],[],[0,1],[2],[],[],[4,5],[6],[3,7],[8]] [0,1,5,26]) (jC 26 (jX [o 4 (.cst (.t (.bool false)))] [4]) .skip)
def c24_7:ACode:=jS (jS (jR [m 11 5,m 12 0,e 13 12,b 14 .lss 11 13] [0,1,5,14]) (jC 14 .skip (.exit 0))) (jS (.block 1 c24_4) (jR [m 15 5,jB 16 .add 15 1,m 5 16] [0,1,5]))
def c24_13:ACode:=jS (jS (jR [m 6 0,e 7 6,m 8 1,e 9 8,b 10 .neq 7 9] [0,1,10]) (jC 10 (jX [o 4 (.cst (.t (.bool false)))] [4]) .skip)) (jS (jS (jR [jI 5 0] [0,1,5]) (.block 0 (.loop c24_7))) (jX [o 4 (.cst (.t (.bool true)))] [4]))
def c24:ACode:=jS (jR [o 4 (.cst (.t (.bool false)))] [0,1]) c24_13
def r24:List ARes:=[.tmp 4]
def n24:Nat:=27
def c25_0:ACode:=jS (jR [m 3 0,o 4 (.build [jN 0,jN 0,.t (.str []),.nils,.nils] [(0,1,(.c (jN 2))),(1,1,(.s 3))]),jO (.st 5 (.s 2) (.s 4))] [2]) .ret
def c25:ACode:=jS (jR [o 2 (.alloc [jN 0,jN 0,.t (.str []),.nils,.nils])] [0,2]) c25_0
def r25:List ARes:=[.cell 2 true 5]
def n25:Nat:=5
def c26_0:ACode:=jS (jR [m 3 0,o 4 (.build [jN 0,jN 0,.t (.str []),.nils,.nils] [(0,1,(.c (jN 3))),(2,1,(.s 3))]),jO (.st 5 (.s 2) (.s 4))] [2]) .ret
def c26:ACode:=jS (jR [o 2 (.alloc [jN 0,jN 0,.t (.str []),.nils,.nils])] [0,2]) c26_0
def r26:List ARes:=[.cell 2 true 5]
def n26:Nat:=5
def c27_1:ACode:=jS (jR [m 109 0,m 110 0,n 111 110,f 112 2 111,l 113 112,m 114 1,m 115 10,o 116 (.build [jN 0,jN 0] [(0,1,(.s 114)),(1,1,(.s 115))]),o 117 (.bsl false 2 [[.int .i64 0,.int .i64 0]] [(0,(.s 116))]),o 118 (.app 2 16 (.s 113) (.s 117)),n 119 109,f 120 2 119,jO (.st 1 (.s 120) (.s 118))] [8]) (jX [m 121 8,m 6 121,jI 7 0] [6,7])
def c27_2:ACode:=jD [m 89 0,m 90 0,n 91 90,f 92 1 91,l 93 92,m 94 1,jL 95 5 5,o 96 (.call 36 [(.s 95)]),o 97 (.build [jN 0,jN 0,jN 0,.t (.str []),.nils,.nils,jN 0,jN 0,.t (.str []),.nils,.nils,jN 0] [(0,1,(.s 94)),(1,5,(.s 96))]),o 98 (.bsl false 12 [[.int .i64 0,.int .i64 0,.int .i64 0,.str [],.lst [],.lst [],.int .i64 0,.int .i64 0,.str [],.lst [],.lst [],.int .i64 0]] [(0,(.s 97))]),o 99 (.app 12 176 (.s 93) (.s 98)),n 100 89,f 101 1 100,jO (.st 1 (.s 101) (.s 99))] [[],[],[1],[2],[3],[],[],[6],[5,7],[8],[4,9,7],[0,0,1,2,3,4,5,6,7,8,9,10],[11,0,1,2,3,4,5,6,7,8,9,10],[12,10,10,0,1,2,3,4,5,6,7,8,9,10]] [0,1,8,10]
def c27_3:ACode:=jR [m 102 0,n 103 102,f 104 4 103,l 105 104,jB 106 .add 105 1,n 107 102,f 108 4 107,jO (.st 1 (.s 108) (.s 106))] [0,1,8,10]
def c27_5:ACode:=jS (jS (jR [m 82 10,m 83 0,n 84 83,f 85 1 84,l 86 85,e 87 86,b 88 .eql 82 87] [0,1,5,8,10,88]) (jC 88 c27_2 c27_3)) c27_1
def c27_6:ACode:=jR [m 57 11,jB 58 .sub 57 1,m 11 58] [0,1,5,8,10,11]
def c27_9:ACode:=jS (jD [m 59 0,n 60 59,f 61 1 60,l 62 61,m 63 11,i 64 12 62 63,f 65 0 64,l 66 65,m 67 1,b 68 .eql 66 67,m 69 68,gm 70 69 0,go 71 69 (.nilck (.s 70)),gf 72 69 1 71,gl 73 69 72,gm 74 69 11,gi 75 69 12 73 74,gf 76 69 1 75,gL 77 69 5 76,gL 78 69 5 5,go 79 69 (.call 20 [(.s 77),(.s 78)]),p 80 69 79] [[],[0],[1],[2],[],[3,4],[5],[6],[],[7,8],[9],[10],[11,10],[12,10],[13,10],[10],[14,15,10],[16,10],[17,10],[10],[18,19,10,10],[10,20]] [0,1,5,8,10,11,80]) (jC 80 (jR [m 81 11,m 10 81] [0,1,5,8,10,11]) .skip)
def c27_12:ACode:=jS (jS (jR [m 55 11,jB 56 .geq 55 0] [0,1,5,8,10,11,56]) (jC 56 .skip (.exit 2))) (jS (.block 3 c27_9) c27_6)
def c27_15:ACode:=jS (jS (jR [m 49 0,n 50 49,f 51 1 50,l 52 51,e 53 52,jB 54 .sub 53 1,m 11 54] [0,1,5,8,10,11]) (.block 2 (.loop c27_12))) c27_5
def c27_16:ACode:=jS (jR [m 44 0,n 45 44,f 46 1 45,l 47 46,e 48 47,m 10 48] [0,1,5,8,10]) c27_15
def c27_17:ACode:=jR [m 30 9,jB 31 .add 30 1,m 9 31] [0,1,5,8,9]
def c27_18:ACode:=jR [m 42 8,jB 43 .add 42 1,m 8 43] [0,1,5,8,9]
def c27_20:ACode:=jS (jR [m 32 0,n 33 32,f 34 2 33,l 35 34,m 36 9,i 37 2 35 36,f 38 0 37,l 39 38,m 40 1,b 41 .eql 39 40] [0,1,5,8,9,41]) (jC 41 c27_18 .skip)
def c27_23:ACode:=jS (jS (jR [m 23 9,m 24 0,n 25 24,f 26 2 25,l 27 26,e 28 27,b 29 .lss 23 28] [0,1,5,8,9,29]) (jC 29 .skip (.exit 0))) (jS (.block 1 c27_20) c27_17)
def c27_26:ACode:=jS (jS (jR [jI 9 0] [0,1,5,8,9]) (.block 0 (.loop c27_23))) c27_16
def c27_30:ACode:=jS (jS (jR [m 21 1,jB 22 .lss 21 0] [0,1,5,22]) (jC 22 (jX [jI 6 0,jI 7 2] [6,7]) .skip)) (jS (jR [jI 8 0] [0,1,5,8]) c27_26)
def c27_33:ACode:=jS (jS (jR [m 12 0,o 13 (.eqp false (.s 12)),m 14 13,hm 15 14 0,ho 16 14 (.nilck (.s 15)),hf 17 14 0 16,hl 18 14 17,hB 19 14 .eql 18 0,q 20 14 19] [0,1,5,20]) (jC 20 (jX [jI 6 0,jI 7 1] [6,7]) .skip)) c27_30
def c27:ACode:=jS (jR [o 5 (.box 5 (.s 2)),jI 6 0,jI 7 0] [0,1,5]) c27_33
def r27:List ARes:=[.tmp 6,.tmp 7]
def n27:Nat:=122
def c28_0:ACode:=jX [m 98 9,m 99 9,e 100 99,jB 101 .gtr 100 0,m 4 98,m 5 101] [4,5]
def c28_1:ACode:=jR [m 81 10,jB 82 .add 81 1,m 10 82] [0,8,9,10]
def c28_2:ACode:=jD [m 83 9,m 84 0,n 85 84,f 86 1 85,l 87 86,m 88 8,m 89 10,i 90 1 88 89,l 91 90,i 92 12 87 91,f 93 1 92,jL 94 5 93,o 95 (.call 36 [(.s 94)]),o 96 (.bsl false 5 [[.int .i64 0,.int .i64 0,.str [],.lst [],.lst []]] [(0,(.s 95))]),o 97 (.app 5 80 (.s 83) (.s 96)),m 9 97] [[],[],[1],[2],[3],[],[],[5,6],[7],[4,8],[9],[10],[11],[12],[0,13,12],[14,14,0,1,2,3,4,5,6,7,8,9,10,11,12,13,14]] [0,8,9,10]
def c28_5:ACode:=jS (jS (jR [m 77 10,m 78 8,e 79 78,b 80 .lss 77 79] [0,8,9,10,80]) (jC 80 .skip (.exit 2))) (jS (.block 3 c28_2) c28_1)
def c28_8:ACode:=jS (jS (jR [jI 10 0] [0,8,9,10]) (.block 2 (.loop c28_5))) c28_0
def c28_10:ACode:=jS (jR [m 74 0,m 75 1,o 76 (.call 37 [(.s 74),(.s 75)]),m 8 76] [0,8]) (jS (jR [o 9 (.cst (.nils))] [0,8,9]) c28_8)
def c28_11:ACode:=jR [m 67 0,n 68 67,f 69 3 68,l 70 69,jB 71 .add 70 1,n 72 67,f 73 3 72,jO (.st 1 (.s 73) (.s 71))] [0,1]
def c28_13:ACode:=jS (jR [m 65 6,jB 66 .gtr 65 0] [0,1,66]) (jC 66 c28_11 .skip)
def c28_14:ACode:=jR [m 25 7,jB 26 .add 25 1,m 7 26] [0,1,6,7]
def c28_15:ACode:=jR [m 63 6,jB 64 .add 63 1,m 6 64] [0,1,6,7]
def c28_16:ACode:=jS (jR [m 56 0,n 57 56,f 58 1 57,l 59 58,m 60 7,i 61 12 59 60,f 62 11 61,jO (.st 1 (.s 62) (.c (jN 1)))] [0,1,6,7]) c28_15
def c28_18:ACode:=jS (jR [m 27 0,n 28 27,f 29 1 28,l 30 29,m 31 7,i 32 12 30 31,f 33 0 32,l 34 33,m 35 1,b 36 .eql 34 35,m 37 36,gm 38 37 0,go 39 37 (.nilck (.s 38)),gf 40 37 1 39,gl 41 37 40,gm 42 37 7,gi 43 37 12 41 42,gf 44 37 11 43,gl 45 37 44,gB 46 37 .eql 45 0,p 47 37 46,m 48 47,gm 49 48 6,gm 50 48 0,go 51 48 (.nilck (.s 50)),gf 52 48 0 51,gl 53 48 52,gb 54 48 .lss 49 53,p 55 48 54] [0,1,6,7,55]) (jC 55 c28_16 .skip)
def c28_21:ACode:=jS (jS (jR [m 18 7,m 19 0,n 20 19,f 21 1 20,l 22 21,e 23 22,b 24 .lss 18 23] [0,1,6,7,24]) (jC 24 .skip (.exit 0))) (jS (.block 1 c28_18) c28_14)
def c28_24:ACode:=jS (jS (jR [jI 7 0] [0,1,6,7]) (.block 0 (.loop c28_21))) c28_13
def c28_27:ACode:=jS (jS (jR [m 13 0,m 14 1,o 15 (.call 37 [(.s 13),(.s 14)]),e 16 15,jB 17 .eql 16 0] [0,1,17]) (jC 17 (jS (jR [jI 6 0] [0,1,6]) c28_24) .skip)) c28_10
def c28_28:ACode:=jX [o 4 (.cst (.nils)),o 5 (.cst (.t (.bool false)))] [4,5]
def c28_30:ACode:=jS (jS (jR [m 11 0,o 12 (.eqp false (.s 11))] [0,1,12]) (jC 12 c28_28 .skip)) c28_27
def c28:ACode:=jS (jR [o 4 (.cst (.nils)),o 5 (.cst (.t (.bool false)))] [0,1]) c28_30
def r28:List ARes:=[.tmp 4,.tmp 5]
def n28:Nat:=102
def c29_1:ACode:=jR [m 33 8,jB 34 .add 33 1,m 8 34] [0,2,7,8]
def c29_2:ACode:=jD [m 45 0,n 46 45,f 47 1 46,l 48 47,m 49 7,m 50 8,i 51 1 49 50,l 52 51,m 53 2,m 54 8,i 55 5 53 54,jL 56 5 55,o 57 (.call 36 [(.s 56)]),i 58 12 48 52,f 59 6 58,jO (.st 5 (.s 59) (.s 57))] [[],[0],[1],[2],[],[],[4,5],[6],[],[],[8,9],[10],[11],[3,7,0,1,2,3,4,5,6,7,8,9,10,11,12],[13,0,1,2,3,4,5,6,7,8,9,10,11,12],[14,12,12,0,1,2,3,4,5,6,7,8,9,10,11,12]] [0,2,7,8]
def c29_3:ACode:=jS (jD [m 35 0,n 36 35,f 37 1 36,l 38 37,m 39 7,m 40 8,i 41 1 39 40,l 42 41,i 43 12 38 42,f 44 11 43,jO (.st 1 (.s 44) (.c (jN 2)))] [[],[0],[1],[2],[],[],[4,5],[6],[3,7,0,1,2,3,4,5,6,7],[8,0,1,2,3,4,5,6,7],[9,0,1,2,3,4,5,6,7]] [0,2,7,8]) c29_2
def c29_6:ACode:=jS (jS (jR [m 29 8,m 30 7,e 31 30,b 32 .lss 29 31] [0,2,7,8,32]) (jC 32 .skip (.exit 0))) (jS (.block 1 c29_3) c29_1)
def c29_12:ACode:=jS (jS (jR [m 24 7,e 25 24,m 26 2,e 27 26,b 28 .neq 25 27] [0,2,7,28]) (jC 28 (jX [jI 6 2] [6]) .skip)) (jS (jS (jR [jI 8 0] [0,2,7,8]) (.block 0 (.loop c29_6))) (jX [jI 6 0] [6]))
def c29_15:ACode:=jS (jS (jR [m 21 7,e 22 21,jB 23 .eql 22 0] [0,2,7,23]) (jC 23 (jX [jI 6 12] [6]) .skip)) c29_12
def c29_16:ACode:=jS (jR [m 18 0,m 19 1,o 20 (.call 37 [(.s 18),(.s 19)]),m 7 20] [0,2,7]) c29_15
def c29_19:ACode:=jS (jS (jR [m 9 0,o 10 (.eqp false (.s 9)),m 11 10,hm 12 11 0,ho 13 11 (.nilck (.s 12)),hf 14 11 0 13,hl 15 11 14,hB 16 11 .eql 15 0,q 17 11 16] [0,1,2,17]) (jC 17 (jX [jI 6 1] [6]) .skip)) c29_16
def c29:ACode:=jS (jR [jI 6 0] [0,1,2]) c29_19
def r29:List ARes:=[.tmp 6]
def n29:Nat:=60
def c30_0:ACode:=jX [o 58 (.build [jN 0,jN 0,.t (.str []),.nils,.nils] []),jO (.st 5 (.s 6) (.s 58)),o 7 (.cst (.t (.bool false)))] [6,7]
def c30_1:ACode:=jR [m 21 9,jB 22 .add 21 1,m 9 22] [0,1,2,6,8,9]
def c30_2:ACode:=jR [m 56 8,jB 57 .add 56 1,m 8 57] [0,1,2,6,8,9]
def c30_3:ACode:=jS (jD [f 50 6 10,jL 51 5 50,o 52 (.call 36 [(.s 51)]),f 53 11 10,l 54 53,jB 55 .eql 54 2,jO (.st 5 (.s 6) (.s 52)),m 7 55] [[],[0],[1],[],[3],[4],[2,2,0,1,2],[5,6,0,1,2,3,4,5,6]] [6,7]) .ret
def c30_4:ACode:=jS (jD [m 36 0,n 37 36,f 38 1 37,l 39 38,m 40 0,n 41 40,f 42 2 41,l 43 42,m 44 9,i 45 2 43 44,f 46 1 45,l 47 46,i 48 12 39 47,jL 49 12 48,o 10 (.alloc [jN 0,jN 0,jN 0,.t (.str []),.nils,.nils,jN 0,jN 0,.t (.str []),.nils,.nils,jN 0]),jO (.st 12 (.s 10) (.s 49))] [[],[0],[1],[2],[],[4],[5],[6],[],[7,8],[9],[10],[3,11],[12],[],[14,13,0,1,2,3,4,5,6,7,8,9,10,11,12,13,14]] [6,10]) c30_3
def c30_6:ACode:=jS (jS (jR [m 33 8,m 34 2,b 35 .eql 33 34] [0,1,2,6,8,9,35]) (jC 35 c30_4 .skip)) c30_2
def c30_8:ACode:=jS (jS (jR [m 23 0,n 24 23,f 25 2 24,l 26 25,m 27 9,i 28 2 26 27,f 29 0 28,l 30 29,m 31 1,b 32 .neq 30 31] [0,1,2,6,8,9,32]) (jC 32 (.exit 1) .skip)) c30_6
def c30_11:ACode:=jS (jS (jR [m 14 9,m 15 0,n 16 15,f 17 2 16,l 18 17,e 19 18,b 20 .lss 14 19] [0,1,2,6,8,9,20]) (jC 20 .skip (.exit 0))) (jS (.block 1 c30_8) c30_1)
def c30_14:ACode:=jS (jS (jR [jI 9 0] [0,1,2,6,8,9]) (.block 0 (.loop c30_11))) c30_0
def c30_16:ACode:=jX [o 13 (.build [jN 0,jN 0,.t (.str []),.nils,.nils] []),jO (.st 5 (.s 6) (.s 13)),o 7 (.cst (.t (.bool false)))] [6,7]
def c30_18:ACode:=jS (jS (jR [m 11 0,o 12 (.eqp false (.s 11))] [0,1,2,6,12]) (jC 12 c30_16 .skip)) (jS (jR [jI 8 0] [0,1,2,6,8]) c30_14)
def c30:ACode:=jS (jR [o 6 (.alloc [jN 0,jN 0,.t (.str []),.nils,.nils]),o 7 (.cst (.t (.bool false)))] [0,1,2,6]) c30_18
def r30:List ARes:=[.cell 6 true 5,.tmp 7]
def n30:Nat:=59
def c31_0:ACode:=jX [m 3 0,o 4 (.eqp false (.s 3)),m 5 4,hm 6 5 0,ho 7 5 (.nilck (.s 6)),hf 8 5 1 7,hl 9 5 8,ho 10 5 (.eqm false (.s 9)),q 11 5 10,m 2 11] [2]
def c31:ACode:=jS (jR [o 2 (.cst (.t (.bool false)))] [0]) c31_0
def r31:List ARes:=[.tmp 2]
def n31:Nat:=12
def c32_0:ACode:=jX [jL 5 5 2,jL 6 5 3,o 7 (.call 38 [(.s 5),(.s 6)]),jB 8 .eql 7 0,m 4 8] [4]
def c32:ACode:=jS (jR [o 2 (.box 5 (.s 0)),o 3 (.box 5 (.s 1)),o 4 (.cst (.t (.bool false)))] [2,3]) c32_0
def r32:List ARes:=[.tmp 4]
def n32:Nat:=9
def c33_0:ACode:=jX [jL 11 5 1,jO (.st 5 (.s 2) (.s 11))] [2]
def c33_1:ACode:=jS (jR [f 7 4 1,l 8 7,o 9 (.call 40 [(.s 8)]),f 10 4 1,jO (.st 1 (.s 10) (.s 9))] [1,2]) c33_0
def c33_2:ACode:=jS (jR [f 3 3 1,l 4 3,o 5 (.call 39 [(.s 4)]),f 6 3 1,jO (.st 1 (.s 6) (.s 5))] [1,2]) c33_1
def c33:ACode:=jS (jR [o 1 (.box 5 (.s 0)),o 2 (.alloc [jN 0,jN 0,.t (.str []),.nils,.nils])] [1,2]) c33_2
def r33:List ARes:=[.cell 2 true 5]
def n33:Nat:=12
def c34_1:ACode:=jR [m 28 6,jB 29 .add 28 1,m 6 29] [2,3,5,6]
def c34_2:ACode:=jD [f 58 3 2,l 59 58,m 60 6,i 61 5 59 60,jL 62 5 61,f 63 3 3,l 64 63,m 65 6,i 66 5 64 65,jL 67 5 66,o 68 (.call 34 [(.s 62),(.s 67)]),m 5 68] [[],[0],[],[1,2],[3],[],[5],[],[6,7],[8],[4,9],[10,10,0,1,2,3,4,5,6,7,8,9,10]] [2,3,5,6]
def c34_4:ACode:=jS (jR [m 56 5,jB 57 .eql 56 0] [2,3,5,6,57]) (jC 57 c34_2 .skip)
def c34_5:ACode:=jS (jD [jL 49 5 2,m 50 6,o 51 (.call 43 [(.s 49),(.s 50)]),jL 52 5 3,m 53 6,o 54 (.call 43 [(.s 52),(.s 53)]),o 55 (.call 42 [(.s 51),(.s 54)]),m 5 55] [[],[],[0,1],[],[],[3,4,2],[2,5,5],[6,6,0,1,2,3,4,5,6]] [2,3,5,6]) c34_4
def c34_6:ACode:=jX [f 42 3 2,l 43 42,e 44 43,f 45 3 3,l 46 45,e 47 46,o 48 (.call 41 [(.s 44),(.s 47)]),m 4 48] [4]
def c34_8:ACode:=jS (jS (jR [m 30 6,f 31 3 2,l 32 31,e 33 32,b 34 .geq 30 33,m 35 34,hm 36 35 6,hf 37 35 3 3,hl 38 35 37,he 39 35 38,hb 40 35 .geq 36 39,q 41 35 40] [2,3,6,41]) (jC 41 c34_6 .skip)) c34_5
def c34_11:ACode:=jS (jS (jR [m 26 5,jB 27 .eql 26 0] [2,3,5,6,27]) (jC 27 .skip (.exit 0))) (jS (.block 1 c34_8) c34_1)
def c34_14:ACode:=jS (jS (jR [jI 6 0] [2,3,5,6]) (.block 0 (.loop c34_11))) (jX [m 69 5,m 4 69] [4])
def c34_15:ACode:=jR [f 21 2 2,l 22 21,f 23 2 3,l 24 23,o 25 (.call 42 [(.s 22),(.s 24)]),m 5 25] [2,3,5]
def c34_17:ACode:=jS (jS (jR [m 19 5,jB 20 .eql 19 0] [2,3,5,20]) (jC 20 c34_15 .skip)) c34_14
def c34_18:ACode:=jR [f 14 1 2,l 15 14,f 16 1 3,l 17 16,o 18 (.call 41 [(.s 15),(.s 17)]),m 5 18] [2,3,5]
def c34_20:ACode:=jS (jS (jR [m 12 5,jB 13 .eql 12 0] [2,3,5,13]) (jC 13 c34_18 .skip)) c34_17
def c34_21:ACode:=jS (jR [f 7 0 2,l 8 7,f 9 0 3,l 10 9,o 11 (.call 41 [(.s 8),(.s 10)]),m 5 11] [2,3,5]) c34_20
def c34:ACode:=jS (jR [o 2 (.box 5 (.s 0)),o 3 (.box 5 (.s 1)),jI 4 0] [2,3]) c34_21
def r34:List ARes:=[.tmp 4]
def n34:Nat:=70
def c35_2:ACode:=jR [m 11 3,m 12 0,m 13 4,i 14 5 12 13,jL 15 5 14,o 16 (.call 36 [(.s 15)]),o 17 (.bsl false 5 [[.int .i64 0,.int .i64 0,.str [],.lst [],.lst []]] [(0,(.s 16))]),o 18 (.app 5 80 (.s 11) (.s 17)),m 3 18] [0,3,4]
def c35_5:ACode:=jS (jS (jR [m 5 4,m 6 0,e 7 6,b 8 .lss 5 7] [0,3,4,8]) (jC 8 .skip (.exit 0))) (jS (.block 1 c35_2) (jR [m 9 4,jB 10 .add 9 1,m 4 10] [0,3,4]))
def c35:ACode:=jS (jR [o 2 (.cst (.nils))] [0]) (jS (jR [o 3 (.cst (.nils))] [0,3]) (jS (jS (jR [jI 4 0] [0,3,4]) (.block 0 (.loop c35_5))) (jX [m 19 3,m 2 19] [2])))
def r35:List ARes:=[.tmp 2]
def n35:Nat:=20
def c36_0:ACode:=jS (jD [f 3 0 1,l 4 3,f 5 1 1,l 6 5,f 7 2 1,l 8 7,f 9 3 1,l 10 9,o 11 (.call 35 [(.s 10)]),o 12 (.bsl true 1 [] []),f 13 4 1,l 14 13,o 15 (.app 1 16 (.s 12) (.s 14)),o 16 (.build [jN 0,jN 0,.t (.str []),.nils,.nils] [(0,1,(.s 4)),(1,1,(.s 6)),(2,1,(.s 8)),(3,1,(.s 11)),(4,1,(.s 15))]),jO (.st 5 (.s 2) (.s 16))] [[],[0],[],[2],[],[4],[],[6],[7],[],[],[10],[9,11,8],[1,3,5,8,12],[13,12,0,1,2,3,4,5,6,7,8,9,10,11,12,13]] [2]) .ret
def c36:ACode:=jS (jR [o 1 (.box 5 (.s 0)),o 2 (.alloc [jN 0,jN 0,.t (.str []),.nils,.nils])] [1,2]) c36_0
def r36:List ARes:=[.cell 2 true 5]
def n36:Nat:=17
def c37_1:ACode:=jR [m 14 6,jB 15 .add 14 1,m 6 15] [0,1,5,6]
def c37_2:ACode:=jR [m 37 5,m 38 6,o 39 (.bsl false 1 [[.int .i64 0]] [(0,(.s 38))]),o 40 (.app 1 8 (.s 37) (.s 39)),m 5 40] [0,1,5,6]
def c37_4:ACode:=jS (jR [m 16 0,n 17 16,f 18 1 17,l 19 18,m 20 6,i 21 12 19 20,f 22 0 21,l 23 22,m 24 1,b 25 .eql 23 24,m 26 25,gm 27 26 0,go 28 26 (.nilck (.s 27)),gf 29 26 1 28,gl 30 26 29,gm 31 26 6,gi 32 26 12 30 31,gf 33 26 11 32,gl 34 26 33,gB 35 26 .eql 34 1,p 36 26 35] [0,1,5,6,36]) (jC 36 c37_2 .skip)
def c37_7:ACode:=jS (jS (jR [m 7 6,m 8 0,n 9 8,f 10 1 9,l 11 10,e 12 11,b 13 .lss 7 12] [0,1,5,6,13]) (jC 13 .skip (.exit 0))) (jS (.block 1 c37_4) c37_1)
def c37:ACode:=jS (jR [o 4 (.cst (.nils))] [0,1]) (jS (jR [o 5 (.cst (.nils))] [0,1,5]) (jS (jS (jR [jI 6 0] [0,1,5,6]) (.block 0 (.loop c37_7))) (jX [m 41 5,m 4 41] [4])))
def r37:List ARes:=[.tmp 4]
def n37:Nat:=42
def c38_2:ACode:=jR [f 75 3 2,l 76 75,e 77 76,f 78 3 3,l 79 78,e 80 79,o 81 (.call 44 [(.s 77),(.s 80)]),m 5 81] [2,3,5,7]
def c38_5:ACode:=jS (jR [m 72 5,jB 73 .neq 72 0] [2,3,5,7,48,49,73]) (jC 73 (.exit 0) .skip)
def c38_6:ACode:=jS (jD [f 61 3 2,l 62 61,m 63 6,i 64 5 62 63,jL 65 5 64,f 66 3 3,l 67 66,m 68 6,i 69 5 67 68,jL 70 5 69,o 71 (.call 38 [(.s 65),(.s 70)]),m 5 71] [[],[0],[],[1,2],[3],[],[5],[],[6,7],[8],[4,9],[10,10,0,1,2,3,4,5,6,7,8,9,10]] [2,3,5,7,48,49]) c38_5
def c38_8:ACode:=jS (jR [m 59 5,jB 60 .neq 59 0] [2,3,5,6,7,48,49,60]) (jC 60 (.exit 0) .skip)
def c38_9:ACode:=jS (jS (jD [jL 52 5 2,m 53 6,o 54 (.call 46 [(.s 52),(.s 53)]),jL 55 5 3,m 56 6,o 57 (.call 46 [(.s 55),(.s 56)]),o 58 (.call 45 [(.s 54),(.s 57)]),m 5 58] [[],[],[0,1],[],[],[3,4,2],[2,5,5],[6,6,0,1,2,3,4,5,6]] [2,3,5,6,7,48,49]) c38_8) c38_6
def c38_10:ACode:=jS (jR [m 51 49,m 6 51] [2,3,6,7,48,49]) c38_9
def c38_13:ACode:=jS (jR [b 50 .lss 49 48] [2,3,7,48,49,50]) (jS (jC 50 .skip (.exit 3)) (jS (.block 4 c38_10) (jR [jB 74 .add 49 1,m 49 74] [2,3,7,48,49])))
def c38_16:ACode:=jS (jS (jR [f 42 3 2,l 43 42,e 44 43,f 45 3 3,l 46 45,e 47 46,o 48 (.mini (.s 44) (.s 47)),jI 49 0] [2,3,7,48,49]) (.block 3 (.loop c38_13))) c38_2
def c38_17:ACode:=jS (jR [f 15 0 2,l 16 15,f 17 0 3,l 18 17,o 19 (.call 44 [(.s 16),(.s 18)]),m 5 19] [5]) (.exit 0)
def c38_18:ACode:=jS (jR [f 26 1 2,l 27 26,f 28 1 3,l 29 28,o 30 (.call 44 [(.s 27),(.s 29)]),m 5 30] [5]) (.exit 0)
def c38_19:ACode:=jS (jR [f 37 2 2,l 38 37,f 39 2 3,l 40 39,o 41 (.call 45 [(.s 38),(.s 40)]),m 5 41] [5]) (.exit 0)
def c38_21:ACode:=jS (jR [f 32 2 2,l 33 32,f 34 2 3,l 35 34,b 36 .neq 33 35,m 31 36] [2,3,7,31]) (jC 31 c38_19 .skip)
def c38_23:ACode:=jS (jR [f 21 1 2,l 22 21,f 23 1 3,l 24 23,b 25 .neq 22 24,m 20 25] [2,3,7,20]) (jC 20 c38_18 c38_21)
def c38_25:ACode:=jS (jR [f 10 0 2,l 11 10,f 12 0 3,l 13 12,b 14 .neq 11 13,m 9 14] [2,3,7,9]) (jC 9 c38_17 c38_23)
def c38_32:ACode:=jS (jS (jR [jI 7 0] [2,3,5,7]) (.block 0 (.loop (jS (jR [jB 8 .lss 7 1] [2,3,5,7,8]) (jS (jC 8 .skip (.exit 0)) (jS (.block 1 (jS (.block 2 c38_25) c38_16)) (jR [jB 82 .add 7 1,m 7 82] [2,3,5,7]))))))) (jX [m 83 5,m 4 83] [4])
def c38:ACode:=jS (jR [o 2 (.box 5 (.s 0)),o 3 (.box 5 (.s 1)),jI 4 0] [2,3]) (.scope (jS (jR [jI 5 0] [2,3,5]) (jS .lbl c38_32)))
def r38:List ARes:=[.tmp 4]
def n38:Nat:=84
def c39_2:ACode:=jR [m 12 3,jL 13 5 5,o 14 (.call 33 [(.s 13)]),o 15 (.bsl false 5 [[.int .i64 0,.int .i64 0,.str [],.lst [],.lst []]] [(0,(.s 14))]),o 16 (.app 5 80 (.s 12) (.s 15)),m 3 16] [3,6,7,8]
def c39_3:ACode:=jS (jR [i 10 5 6 8,jL 11 5 10,o 5 (.alloc [jN 0,jN 0,.t (.str []),.nils,.nils]),jO (.st 5 (.s 5) (.s 11))] [3,5,6,7,8]) c39_2
def c39_9:ACode:=jS (jS (jR [m 6 0,e 7 6,jI 8 0] [3,6,7,8]) (.block 0 (.loop (jS (jR [b 9 .lss 8 7] [3,6,7,8,9]) (jS (jC 9 .skip (.exit 0)) (jS (.block 1 c39_3) (jR [jB 17 .add 8 1,m 8 17] [3,6,7,8]))))))) (jX [m 18 3,m 2 18] [2])
def c39:ACode:=jS (jR [o 2 (.cst (.nils))] [0]) (jS (jR [o 3 (.cst (.nils))] [0,3]) c39_9)
def r39:List ARes:=[.tmp 2]
def n39:Nat:=19
def c40_0:ACode:=jX [o 5 (.bsl true 1 [] []),m 6 0,o 7 (.app 1 16 (.s 5) (.s 6)),m 2 7] [2]
def c40_3:ACode:=jS (jS (jR [m 3 0,o 4 (.nw (.eqn false (.s 3)))] [0,4]) (jC 4 (jX [o 2 (.cst (.nils))] [2]) .skip)) c40_0
def c40:ACode:=jS (jR [o 2 (.cst (.nils))] [0]) c40_3
def r40:List ARes:=[.tmp 2]
def n40:Nat:=8
def c41_3:ACode:=jS (jS (jR [m 8 0,m 9 1,b 10 .gtr 8 9] [10]) (jC 10 (jX [jI 4 1] [4]) .skip)) (jX [jI 4 0] [4])
def c41_6:ACode:=jS (jS (jR [m 5 0,m 6 1,b 7 .lss 5 6] [0,1,7]) (jC 7 (jX [jI 4 (-1)] [4]) .skip)) c41_3
def c41:ACode:=jS (jR [jI 4 0] [0,1]) c41_6
def r41:List ARes:=[.tmp 4]
def n41:Nat:=11
def c42_3:ACode:=jS (jS (jR [m 8 0,m 9 1,b 10 .gtr 8 9] [10]) (jC 10 (jX [jI 4 1] [4]) .skip)) (jX [jI 4 0] [4])
def c42_6:ACode:=jS (jS (jR [m 5 0,m 6 1,b 7 .lss 5 6] [0,1,7]) (jC 7 (jX [jI 4 (-1)] [4]) .skip)) c42_3
def c42:ACode:=jS (jR [jI 4 0] [0,1]) c42_6
def r42:List ARes:=[.tmp 4]
def n42:Nat:=11
def c43_1:ACode:=jX [f 10 4 2,l 11 10,m 12 1,i 13 1 11 12,l 14 13,m 4 14] [4]
def c43_3:ACode:=jS (jS (jR [m 5 1,f 6 4 2,l 7 6,e 8 7,b 9 .lss 5 8] [1,2,9]) (jC 9 c43_1 .skip)) (jX [o 4 (.cst (.t (.str [])))] [4])
def c43:ACode:=jS (jR [o 2 (.box 5 (.s 0)),o 4 (.cst (.t (.str [])))] [1,2]) c43_3
def r43:List ARes:=[.tmp 4]
def n43:Nat:=15
def c44_3:ACode:=jS (jS (jR [m 17 0,m 18 1,b 19 .gtr 17 18] [19]) (jC 19 (jX [jI 4 1] [4]) .skip)) (jX [jI 4 0] [4])
def c44_6:ACode:=jS (jS (jR [m 14 0,m 15 1,b 16 .lss 14 15] [0,1,16]) (jC 16 (jX [jI 4 (-1)] [4]) .skip)) c44_3
def c44_15:ACode:=jS (jS (jR [m 11 5] [0,1,6,11]) (jC 11 (jS (jS (jR [m 12 6] [12]) (jC 12 (jX [jI 4 0] [4]) .skip)) (jX [jI 4 (-1)] [4])) .skip)) (jS (jS (jR [m 13 6] [0,1,13]) (jC 13 (jX [jI 4 1] [4]) .skip)) c44_6)
def c44_16:ACode:=jS (jR [m 9 1,o 10 (.call 47 [(.s 9)]),m 6 10] [0,1,5,6]) c44_15
def c44_17:ACode:=jS (jR [m 7 0,o 8 (.call 47 [(.s 7)]),m 5 8] [0,1,5]) c44_16
def c44:ACode:=jS (jR [jI 4 0] [0,1]) c44_17
def r44:List ARes:=[.tmp 4]
def n44:Nat:=20
def c45_0:ACode:=jX [m 5 0,m 6 1,o 7 (.call 48 [(.s 5),(.s 6)]),m 4 7] [4]
def c45:ACode:=jS (jR [jI 4 0] [0,1]) c45_0
def r45:List ARes:=[.tmp 4]
def n45:Nat:=8
def c46_1:ACode:=jX [f 10 4 2,l 11 10,m 12 1,i 13 1 11 12,l 14 13,m 4 14] [4]
def c46_3:ACode:=jS (jS (jR [m 5 1,f 6 4 2,l 7 6,e 8 7,b 9 .lss 5 8] [1,2,9]) (jC 9 c46_1 .skip)) (jX [o 4 (.cst (.t (.str [])))] [4])
def c46:ACode:=jS (jR [o 2 (.box 5 (.s 0)),o 4 (.cst (.t (.str [])))] [1,2]) c46_3
def r46:List ARes:=[.tmp 4]
def n46:Nat:=15
def c47:ACode:=jS (jR [o 2 (.cst (.t (.bool false)))] [0]) (jX [m 3 0,m 4 0,b 5 .neq 3 4,m 2 5] [2])
def r47:List ARes:=[.tmp 2]
def n47:Nat:=6
def c48_0:ACode:=jX [m 5 0,m 6 1,o 7 (.nw (.xcm (.s 5) (.s 6))),m 4 7] [4]
def c48:ACode:=jS (jR [jI 4 0] [0,1]) c48_0
def r48:List ARes:=[.tmp 4]
def n48:Nat:=8
end Go.GB.C35


/-
  GbY: calls of functions that are handed objects: the whole store goes along.
-/
namespace Go.GB
section
variable {P : Program}

/-- the labels behind a call that was handed the names below m -/
def L.backFrom (Λ : L) (m m' : Nat) (Λ' : L) : L where
  lab := fun b => if Λ.high m b then Λ.lab b else Λ'.lab b
  fro := fun k => if k < m' then Λ'.fro k else Λ.fro k
  nxt := Λ.nxt
  w := Λ'.w
  frf := fun k i => if k < m' then Λ'.frf k i else Λ.frf k i

theorem FnOk.same {f : FuncId} {vs : List V} {m : Nat} {sto : List (Nat × AObj)} {out : Out} (h : FnOk P f vs ⟨sto, m⟩ out) (hrd : out.rd = true) (hb : V.bds m vs = true) (hs : stoBd m sto = true) (hob : ∀ k o, (k, o) ∈ out.ob → aget sto k ≠ none ∨ (m ≤ k ∧ k < m + out.n)) : FnAt P f vs m sto out := by
  refine ⟨h.1, hob, fun Λ args hr hle hfree hsz hargs => ?_⟩
  refine (h.2 (Λ.hideFrom m) args (hr.hf hs) rfl hsz fun j v y h1 h2 => (hargs j v y h1 h2).hf (V.bds_at hb j y h2)).mono fun e w' he => ?_
  obtain ⟨v, Λ', rfl, rfl, k1, k2, k3, k4⟩ := he
  simp only at k2 k3
  have hlt : ∀ {b : Nat}, Λ.high m b = true → b < Λ.w.heap.size := by
    intro b hh
    rcases Nat.lt_or_ge b Λ.w.heap.size with h | h
    · exact h
    · unfold L.high at hh; rw [hr.new b h] at hh; simp at hh
  have hH : ∀ {b : Nat}, Λ.high m b = true → (Λ.backFrom m (m + out.n) Λ').lab b = Λ.lab b := fun h => by simp [L.backFrom, h]
  have hL : ∀ {b : Nat}, Λ.high m b = false → (Λ.backFrom m (m + out.n) Λ').lab b = Λ'.lab b := fun h => by simp [L.backFrom, h]
  have hheap : ∀ {b : Nat}, Λ.high m b = true → ∃ fr, Λ'.lab b = .fix (some fr) ∧ Λ'.w.heap[b]? = Λ.w.heap[b]? ∧ ((∃ k, Λ.lab b = .obj k ∧ m ≤ k ∧ fr = 0) ∨ (∃ k, Λ.lab b = .arr k fr ∧ m ≤ k) ∨ (∃ k i, Λ.lab b = .fob k i ∧ m ≤ k ∧ fr = 0) ∨ ∃ k i, Λ.lab b = .far k i fr ∧ m ≤ k) := by
    intro b hh
    obtain ⟨fr, e1, e2⟩ := hf_high hh
    obtain ⟨g1, g2⟩ := k1.fr.fix b (hlt hh) _ e1
    exact ⟨fr, g1, g2, e2⟩
  have hlow : ∀ {b k : Nat}, k < m → (Λ.lab b = .obj k ∨ ∃ n, Λ.lab b = .arr k n) → Λ.high m b = false := by
    intro b k hk hb
    unfold L.high
    rcases hb with hb | ⟨n, hb⟩ <;> rw [hb] <;> simp <;> omega
  have hkp : Kp Λ (Λ.backFrom m (m + out.n) Λ') := by
    refine ⟨⟨k1.fr.os, k1.fr.tape, k1.fr.output, k1.fr.size, fun b hb fr hl => ?_, fun b hb k fr hl o ho => ?_, fun b hb k i fr hl o ho => ?_⟩, Nat.le_refl _, fun b k _ hl => ?_, fun b k n _ hb hl hf => ?_, fun k hk => ?_, fun b k i _ hl => ?_, fun b k i n _ hb hl hf => ?_, fun k i hk => ?_, fun b k i hk hp hf hl => ?_⟩
    · have hh : Λ.high m b = false := by unfold L.high; rw [hl]
      obtain ⟨g1, g2⟩ := k1.fr.fix b hb fr (by rw [hf_low hh]; exact hl)
      exact ⟨by rw [hL hh]; exact g1, g2⟩
    · cases hh : Λ.high m b with
      | true =>
        obtain ⟨fr', g1, g2, g3⟩ := hheap hh
        exact ⟨by unfold Rd; rw [hH hh, hl]; exact ho, cell?_heap g2⟩
      | false =>
        obtain ⟨g1, g2⟩ := k1.fr.arr b hb k fr (by rw [hf_low hh]; exact hl) o ho
        exact ⟨by unfold Rd; rw [hL hh]; exact g1, g2⟩
    · cases hh : Λ.high m b with
      | true =>
        obtain ⟨fr', g1, g2, g3⟩ := hheap hh
        exact ⟨by unfold Rd; rw [hH hh, hl]; exact ho, cell?_heap g2⟩
      | false =>
        obtain ⟨g1, g2⟩ := k1.fr.far b hb k i fr (by rw [hf_low hh]; exact hl) o ho
        exact ⟨by unfold Rd; rw [hL hh]; exact g1, g2⟩
    · cases hh : Λ.high m b with
      | true => rw [hH hh]; exact hl
      | false =>
        have hk : k < m := by unfold L.high at hh; rw [hl] at hh; simpa using hh
        rw [hL hh]; exact k1.obj b k hk (hf_obj hl hk)
    · cases hh : Λ.high m b with
      | true =>
        obtain ⟨fr', g1, g2, g3⟩ := hheap hh
        exact ⟨by rw [hH hh]; exact hl, g2⟩
      | false =>
        have hk : k < m := by unfold L.high at hh; rw [hl] at hh; simpa using hh
        have e1 : (Λ.hideFrom m).fro k = Λ.fro k := by simp [L.hideFrom, hk]
        have e2 : (Λ.backFrom m (m + out.n) Λ').fro k = Λ'.fro k := by simp [L.backFrom]; omega
        obtain ⟨g1, g2⟩ := k1.own b k n hk hb (hf_arr hl hk) (by rw [← e2, hf, e1])
        exact ⟨by rw [hL hh]; exact g1, g2⟩
    · simp only [L.backFrom]
      by_cases h1 : k < m
      · have := k1.fro k h1
        have e1 : (Λ.hideFrom m).fro k = Λ.fro k := by simp [L.hideFrom, h1]
        rw [if_pos (by omega)]; omega
      · by_cases h2 : k < m + out.n
        · rw [if_pos h2, (hfree k (by omega) h2).2.1.fro]; omega
        · rw [if_neg h2]; exact Nat.le_refl _
    · cases hh : Λ.high m b with
      | true =>
        obtain ⟨fr', g1, g2, g3⟩ := hheap hh
        exact ⟨by rw [hH hh]; exact hl, fun N hN => by unfold rowSize at hN ⊢; show (match Λ'.w.heap[b]? with | some (.cells arr _ _) => some arr.size | _ => none) = _; rw [g2]; exact hN⟩
      | false =>
        have hk : k < m := by unfold L.high at hh; rw [hl] at hh; simpa using hh
        obtain ⟨g1, g2⟩ := k1.fob b k i hk (hf_fob hl hk)
        exact ⟨by rw [hL hh]; exact g1, g2⟩
    · cases hh : Λ.high m b with
      | true =>
        obtain ⟨fr', g1, g2, g3⟩ := hheap hh
        exact ⟨by rw [hH hh]; exact hl, g2⟩
      | false =>
        have hk : k < m := by unfold L.high at hh; rw [hl] at hh; simpa using hh
        have e1 : (Λ.hideFrom m).frf k i = Λ.frf k i := by simp [L.hideFrom, hk]
        have e2 : (Λ.backFrom m (m + out.n) Λ').frf k i = Λ'.frf k i := by simp [L.backFrom]; omega
        obtain ⟨g1, g2⟩ := k1.far b k i n hk hb (hf_far hl hk) (by rw [← e2, hf, e1])
        exact ⟨by rw [hL hh]; exact g1, g2⟩
    · simp only [L.backFrom]
      by_cases h1 : k < m
      · have := k1.frf k i h1
        have e1 : (Λ.hideFrom m).frf k i = Λ.frf k i := by simp [L.hideFrom, h1]
        rw [if_pos (by omega)]; omega
      · by_cases h2 : k < m + out.n
        · rw [if_pos h2, (hfree k (by omega) h2).2.1.frf]; omega
        · rw [if_neg h2]; exact Nat.le_refl _
    · cases hh : Λ.high m b with
      | true => rw [hH hh] at hl; exact hl
      | false =>
        rw [hL hh] at hl
        have hkb := k3.bndF b k (.inl ⟨i, hl⟩)
        rcases Nat.lt_or_ge k m with hkm | hkm
        · have e1 : (Λ.hideFrom m).frf k 0 = Λ.frf k 0 := by simp [L.hideFrom, hkm]
          have e2 : (Λ.backFrom m (m + out.n) Λ').frf k 0 = Λ'.frf k 0 := by simp [L.backFrom]; omega
          exact (hf_fob_inv (k1.fobN b k i hkm (by rw [e1]; exact hp) (by rw [← e2, hf, e1]) hl)).1
        · have := (hfree k hkm (by omega)).2.1.frf 0; omega
  -- values of the callee, seen again by the caller
  have hobj : ∀ {b k : Nat}, Λ'.lab b = .obj k → (Λ.backFrom m (m + out.n) Λ').lab b = .obj k := by
    intro b k hb
    cases hh : Λ.high m b with
    | true => obtain ⟨fr, g1, _⟩ := hheap hh; rw [g1] at hb; simp at hb
    | false => rw [hL hh]; exact hb
  have harr : ∀ {b k n : Nat}, Λ'.lab b = .arr k n → (Λ.backFrom m (m + out.n) Λ').lab b = .arr k n := by
    intro b k n hb
    cases hh : Λ.high m b with
    | true => obtain ⟨fr, g1, _⟩ := hheap hh; rw [g1] at hb; simp at hb
    | false => rw [hL hh]; exact hb
  have hfob : ∀ {b k i : Nat}, Λ'.lab b = .fob k i → (Λ.backFrom m (m + out.n) Λ').lab b = .fob k i := by
    intro b k i hb
    cases hh : Λ.high m b with
    | true => obtain ⟨fr, g1, _⟩ := hheap hh; rw [g1] at hb; simp at hb
    | false => rw [hL hh]; exact hb
  have hfar : ∀ {b k i n : Nat}, Λ'.lab b = .far k i n → (Λ.backFrom m (m + out.n) Λ').lab b = .far k i n := by
    intro b k i n hb
    cases hh : Λ.high m b with
    | true => obtain ⟨fr, g1, _⟩ := hheap hh; rw [g1] at hb; simp at hb
    | false => rw [hL hh]; exact hb
  have hrep : ∀ {u : Value} {y : T}, RepT Λ'.lab Λ'.w u y → RepT (Λ.backFrom m (m + out.n) Λ').lab (Λ.backFrom m (m + out.n) Λ').w u y := by
    intro u y hy
    refine hy.keep fun b o _ _ hrd => ⟨?_, rfl⟩
    cases hh : Λ.high m b with
    | true =>
      obtain ⟨fr, g1, _, g3⟩ := hheap hh
      unfold Rd at hrd ⊢
      rw [g1] at hrd
      rw [hH hh]
      rcases g3 with ⟨k, e, _, rfl⟩ | ⟨k, e, _⟩ | ⟨k, i, e, _, rfl⟩ | ⟨k, i, e, _⟩
      · omega
      · rw [e]; exact hrd
      · omega
      · rw [e]; exact hrd
    | false => unfold Rd; rw [hL hh]; exact hrd
  have hfobI : ∀ {b k i : Nat}, k < m + out.n → (Λ.backFrom m (m + out.n) Λ').lab b = .fob k i → Λ'.lab b = .fob k i := by
    intro b k i hk hb
    cases hh : Λ.high m b with
    | true =>
      rw [hH hh] at hb
      have hge : m ≤ k := by unfold L.high at hh; rw [hb] at hh; simpa using hh
      exact absurd hb ((hfree k hge hk).2.1.fob b i)
    | false => rw [hL hh] at hb; exact hb
  have hcur : ∀ {b k : Nat}, k < m + out.n → GCur Λ'.lab k b → GCur (Λ.backFrom m (m + out.n) Λ').lab k b := by
    rintro b k hk ⟨i, e1, e2⟩
    exact ⟨i, hfob e1, fun b' i' h' => e2 b' i' (hfobI hk h')⟩
  have hfrf : ∀ {k i : Nat}, k < Λ'.nxt → (Λ.backFrom m (m + out.n) Λ').frf k i = Λ'.frf k i := by
    intro k i hk; rw [k2] at hk; simp [L.backFrom, hk]
  have hfro : ∀ {k : Nat}, k < Λ'.nxt → (Λ.backFrom m (m + out.n) Λ').fro k = Λ'.fro k := by
    intro k hk; rw [k2] at hk; simp [L.backFrom, hk]
  have hval : ∀ {u : Value} {y : V}, RelV Λ' u y → RelV (Λ.backFrom m (m + out.n) Λ') u y := by
    intro u y hy
    induction hy with
    | t h => exact .t (hrep h)
    | nils => exact .nils
    | @own v k sz xs h hsz hl hn ho =>
      refine .own (hrep h) hsz (by show k < Λ.nxt; omega) (by rw [hfro hl]; exact hn) fun he => ?_
      rcases ho (by rw [← hfro hl]; exact he) with ho | ⟨b, cap, arr, e, hv, hb', hh, hc, hn'⟩
      · exact .inl ho
      · exact .inr ⟨b, cap, arr, e, hv, harr hb', hh, hc, hn'⟩
    | slc hl hc h => exact .slc (by show _ < Λ.nxt; omega) hc (hobj h)
    | agg hs _ ih => exact .agg hs ih
    | tup hs _ ih => exact .tup hs ih
    | ptr hl h => exact .ptr (by show _ < Λ.nxt; omega) (hobj h)
    | mp hl h => exact .mp (by show _ < Λ.nxt; omega) (hobj h)
    | fn hs h => exact .fn hs fun j v c h1 h2 => let ⟨b, e1, e2, e3⟩ := h j v c h1 h2; ⟨b, e1, hobj e2, by show _ < Λ.nxt; omega⟩
    | gd _ h' ih => exact .gd ih h'
    | top => exact .top
    | ub h h' => exact .ub h h'
    | ui => exact .ui
    | fpt hl h => exact .fpt (by show _ < Λ.nxt; omega) (hfob h)
    | gpt hv hl hn h =>
      refine .gpt hv (by show _ < Λ.nxt; omega) (by rw [hfrf hl]; exact hn) fun he => ?_
      obtain ⟨b, e1, e2⟩ := h (by rw [← hfrf hl]; exact he)
      exact ⟨b, e1, hcur (by omega) e2⟩
    | gsl hv hl hn h =>
      refine .gsl hv (by show _ < Λ.nxt; omega) (by rw [hfrf hl]; exact hn) fun he => ?_
      rcases h (by rw [← hfrf hl]; exact he) with h | ⟨b, cap, N, hv, hc, e2, hN, he'⟩
      · exact .inl h
      · exact .inr ⟨b, cap, N, hv, hc, hcur (by omega) e2, hN, he'⟩
    | fow h hsz hl hn ho =>
      refine .fow (hrep h) hsz (by show _ < Λ.nxt; omega) (by rw [hfrf hl]; exact hn) fun he => ?_
      rcases ho (by rw [← hfrf hl]; exact he) with ho | ⟨b, cap, arr, e, hv, hb', hh, hc, hn'⟩
      · exact .inl ho
      · exact .inr ⟨b, cap, arr, e, hv, hfar hb', hh, hc, hn'⟩
  have hname : ∀ {b k : Nat}, Λ.high m b = true → ((Λ.backFrom m (m + out.n) Λ').lab b = .obj k ∨ ∃ n, (Λ.backFrom m (m + out.n) Λ').lab b = .arr k n) → m + out.n ≤ k ∧ (Λ.lab b = .obj k ∨ ∃ n, Λ.lab b = .arr k n) := by
    intro b k hh hb
    rw [hH hh] at hb
    refine ⟨?_, hb⟩
    have hge : m ≤ k := by unfold L.high at hh; rcases hb with hb | ⟨n, hb⟩ <;> rw [hb] at hh <;> simpa using hh
    rcases Nat.lt_or_ge k (m + out.n) with h | h
    · have := (hfree k hge h).2.1
      rcases hb with hb | ⟨n, hb⟩
      · exact absurd hb (this.obj b)
      · exact absurd hb (this.arr b n)
    · exact h
  have hlowname : ∀ {b k : Nat}, Λ.high m b = false → ((Λ.backFrom m (m + out.n) Λ').lab b = .obj k ∨ ∃ n, (Λ.backFrom m (m + out.n) Λ').lab b = .arr k n) → k < m + out.n ∧ (Λ'.lab b = .obj k ∨ ∃ n, Λ'.lab b = .arr k n) := by
    intro b k hh hb
    rw [hL hh] at hb
    have := k3.bnd b k hb
    exact ⟨by omega, hb⟩
  refine ⟨v, Λ.backFrom m (m + out.n) Λ', rfl, rfl, hkp, rfl, ?_, hval k4, fun k hk hn hcase => ?_⟩
  · refine ⟨fun k o ho => ?_, fun b b' k h1 h2 => ?_, fun b hb => ?_, fun b k hb => ?_, fun k hk => ?_, fun b b' k i h1 h2 => ?_, fun b k hb => ?_, fun k i hk => ?_⟩
    · obtain ⟨g1, g2⟩ := k3.sto k o ho
      refine ⟨by show k < Λ.nxt; omega, ?_⟩
      cases o with
      | cells cs =>
        obtain ⟨b, arr, e, e1, e2, e3, e4⟩ := g2
        exact ⟨b, arr, e, hobj e1, e2, e3, fun j v c a1 a2 => hval (e4 j v c a1 a2)⟩
      | map kag es sx =>
        obtain ⟨b, ents, clock, e1, e2, e3⟩ := g2
        exact ⟨b, ents, clock, hobj e1, e2, e3.keep (fun _ _ h => hrep h) (fun _ _ _ _ h => hval h)⟩
      | arr n => unfold RelO at *; rw [hfro g1]; exact g2
      | iter q s seen c =>
        obtain ⟨b, bm, e1, e2, e3, e4⟩ := g2
        exact ⟨b, bm, hobj e1, e2, hobj e3, by show q < Λ.nxt; omega⟩
      | gro ver cs =>
        obtain ⟨q0, q⟩ := g2
        refine ⟨by rw [hfrf g1]; exact q0, ?_⟩
        rcases q with ⟨e1, e2⟩ | ⟨b, arr, e, e1, e2, e3, e4⟩
        · exact .inl ⟨e1, fun b i hb => e2 b i (hfobI (by omega) hb)⟩
        · exact .inr ⟨b, arr, e, hcur (by omega) e1, e2, e3, fun j v c a1 a2 => hval (e4 j v c a1 a2)⟩
      | fobs os =>
        obtain ⟨q0, q⟩ := g2
        refine ⟨fun b i hb => q0 b i (hfobI (by omega) hb), fun i cs hi => ?_⟩
        obtain ⟨b, arr, e, e1, e2, e3, e4⟩ := q i cs hi
        exact ⟨b, arr, e, hfob e1, e2, e3, fun j v c a1 a2 => hval (e4 j v c a1 a2)⟩
      | farr ns => exact fun i => (hfrf g1).trans (g2 i)
      | memo kag I =>
        obtain ⟨b, ents, clock, e1, e2, e3, e4, e5⟩ := g2
        refine ⟨b, ents, clock, hobj e1, e2, e3, e4, fun i e hi => ?_⟩
        obtain ⟨cs, v, q1, q2, q3⟩ := e5 i e hi
        exact ⟨cs, v, q1.keep fun _ _ h => hrep h, hrep q2, q3⟩
      | abs J => exact ⟨g2.1, (hfrf g1).trans g2.2.1, g2.1 _ _ _ _ _ _ (fun _ _ h => hrep h) (fun b i => ⟨fun h => hfob h, fun h => hfobI (by omega) h⟩) (fun _ _ _ => rfl) g2.2.2⟩
    · cases hh : Λ.high m b with
      | true =>
        obtain ⟨q1, q2⟩ := hname hh (.inl h1)
        cases hh' : Λ.high m b' with
        | true =>
          rw [hH hh] at h1; rw [hH hh'] at h2
          exact hr.inj b b' k h1 h2
        | false => have := (hlowname hh' (.inl h2)).1; omega
      | false =>
        have q := (hlowname hh (.inl h1)).1
        cases hh' : Λ.high m b' with
        | true => have := (hname hh' (.inl h2)).1; omega
        | false => rw [hL hh] at h1; rw [hL hh'] at h2; exact k3.inj b b' k h1 h2
    · have hge : Λ.w.heap.size ≤ b := Nat.le_trans k1.fr.size hb
      have hh : Λ.high m b = false := by unfold L.high; rw [hr.new b hge]
      rw [hL hh]; exact k3.new b hb
    · show k < Λ.nxt
      cases hh : Λ.high m b with
      | true => exact hr.bnd b k (hname hh hb).2
      | false => have := (hlowname hh hb).1; omega
    · have hk' : Λ.nxt ≤ k := hk
      simp only [L.backFrom]
      rw [if_neg (by omega)]; exact hr.frz k hk'
    · cases hh : Λ.high m b with
      | true =>
        cases hh' : Λ.high m b' with
        | true => rw [hH hh] at h1; rw [hH hh'] at h2; exact hr.injF b b' k i h1 h2
        | false =>
          rw [hL hh'] at h2
          have hkb := k3.bndF b' k (.inl ⟨i, h2⟩)
          have h1' := hfobI (by omega) h1
          exact k3.injF b b' k i h1' h2
      | false =>
        rw [hL hh] at h1
        have hkb := k3.bndF b k (.inl ⟨i, h1⟩)
        exact k3.injF b b' k i h1 (hfobI (by omega) h2)
    · show k < Λ.nxt
      cases hh : Λ.high m b with
      | true => rw [hH hh] at hb; exact hr.bndF b k hb
      | false => rw [hL hh] at hb; have := k3.bndF b k hb; omega
    · have hk' : Λ.nxt ≤ k := hk
      simp only [L.backFrom]
      rw [if_neg (by omega)]; exact hr.frzF k i hk'
  · rcases hcase with hge | ⟨hlt', hrd'⟩
    · refine ⟨fun b hb => ?_, fun b n hb => ?_, ?_, fun b i hb => ?_, fun b i n hb => ?_, fun i => ?_⟩
      · cases hh : Λ.high m b with
        | true => rw [hH hh] at hb; exact hk.obj b hb
        | false => have := (hlowname hh (.inl hb)).1; omega
      · cases hh : Λ.high m b with
        | true => rw [hH hh] at hb; exact hk.arr b n hb
        | false => have := (hlowname hh (.inr ⟨n, hb⟩)).1; omega
      · simp only [L.backFrom]; rw [if_neg (by omega)]; exact hk.fro
      · cases hh : Λ.high m b with
        | true => rw [hH hh] at hb; exact hk.fob b i hb
        | false => rw [hL hh] at hb; have := k3.bndF b k (.inl ⟨i, hb⟩); omega
      · cases hh : Λ.high m b with
        | true => rw [hH hh] at hb; exact hk.far b i n hb
        | false => rw [hL hh] at hb; have := k3.bndF b k (.inr ⟨i, n, hb⟩); omega
      · simp only [L.backFrom]; rw [if_neg (by omega)]; exact hk.frf i
    · rw [hrd] at hrd'; cases hrd'

end
end Go.GB


/-
  GbYe: objects that are lists, and maps of a type, without names in them.
-/
namespace Go.GB
def mE {κ ν : Type} (ek : κ → List T) (ev : ν → T) (l : List (κ × ν)) : List (List T × V) := l.map fun e => (ek e.1, .t (ev e.2))
def cE {ν : Type} (ev : ν → T) (l : List ν) : List V := l.map fun x => .t (ev x)
theorem V.bds_cE {ν : Type} (m : Nat) (ev : ν → T) : ∀ (l : List ν), V.bds m (cE ev l) = true
  | [] => rfl
  | x :: r => by have := V.bds_cE m ev r; simp only [cE] at this; simp [cE, V.bds, V.bd, this]
theorem LeXs.cE {ν : Type} {m m' : Nat} {ev : ν → T} {l l' : List ν} (h : l = l') : LeXs m m' (cE ev l) (cE ev l') := h ▸ .same (V.bds_cE m ev l)
theorem LeO.cE {ν : Type} {m m' : Nat} {ev : ν → T} {l l' : List ν} (h : l = l') : LeO m m' (.cells (cE ev l)) (.cells (cE ev l')) := .cells (.cE h)
theorem LeO.mE {κ ν : Type} {m m' : Nat} {kag : Bool} {ek : κ → List T} {ev : ν → T} {l l' : List (κ × ν)} {sx sx' : Option (Nat × List Nat)} (h : l = l') (hs : sx' = none ∨ sx' = sx) : LeO m m' (.map kag (mE ek ev l) sx) (.map kag (mE ek ev l') sx') := by
  subst h
  have := V.bds_cE m (fun e : κ × ν => ev e.2) l
  simp only [Go.GB.cE] at this
  exact .map rfl (by simp only [Go.GB.mE, List.map_map, Function.comp_def]; exact .same this) hs

/-- cells of a list whose elements have some cells each -/
def gE {α : Type} (f : α → List V) (l : List α) : List V := (l.map f).flatten
theorem gE_append {α : Type} (f : α → List V) (l k : List α) : gE f (l ++ k) = gE f l ++ gE f k := by simp [gE]
theorem gE_length {α : Type} {f : α → List V} {sz : Nat} (h : ∀ x, (f x).length = sz) : ∀ (l : List α), (gE f l).length = l.length * sz
  | [] => by simp [gE]
  | x :: r => by
    have := gE_length h r
    simp only [gE] at this
    simp only [gE, List.map_cons, List.flatten_cons, List.length_append, this, h, List.length_cons]
    rw [Nat.add_mul]; omega
theorem gE_at {α : Type} {f : α → List V} {sz : Nat} (h : ∀ x, (f x).length = sz) : ∀ (l : List α) (i j : Nat) (e : α), l[i]? = some e → j < sz → (gE f l)[i * sz + j]? = (f e)[j]?
  | [], i, j, e, hi, _ => by simp at hi
  | x :: r, 0, j, e, hi, hj => by
    simp at hi; subst hi
    simp only [gE, List.map_cons, List.flatten_cons, Nat.zero_mul, Nat.zero_add]
    rw [List.getElem?_append_left (by rw [h]; exact hj)]
  | x :: r, i + 1, j, e, hi, hj => by
    have := gE_at h r i j e (by simpa using hi) hj
    simp only [gE, List.map_cons, List.flatten_cons] at this ⊢
    rw [List.getElem?_append_right (by rw [h, Nat.add_mul]; omega), h]
    rw [← this]; congr 1; rw [Nat.add_mul]; omega
theorem V.bds_app (m : Nat) : ∀ (a b : List V), V.bds m (a ++ b) = (V.bds m a && V.bds m b)
  | [], b => by simp [V.bds]
  | x :: r, b => by simp [V.bds, V.bds_app m r b, Bool.and_assoc]
theorem V.bds_gE {α : Type} {m : Nat} {f : α → List V} (h : ∀ x, V.bds m (f x) = true) : ∀ (l : List α), V.bds m (gE f l) = true
  | [] => rfl
  | x :: r => by
    have := V.bds_gE h r
    simp only [gE] at this
    simp only [gE, List.map_cons, List.flatten_cons, V.bds_app, h, this, Bool.and_self]
theorem LeXs.gE {α : Type} {m m' : Nat} {f : α → List V} {l l' : List α} (h : l = l') (hb : ∀ x, V.bds m (f x) = true) : LeXs m m' (gE f l) (gE f l') := h ▸ .same (V.bds_gE hb l)
theorem LeO.groE {m m' r r' : Nat} {cs ds : List V} (e : r = r') (h : LeXs m m' cs ds) : LeO m m' (.gro r cs) (.gro r' ds) := e ▸ .gro h
theorem LeX.gslEq {m m' k ver ver' off off' len len' sz : Nat} (e1 : ver = ver') (e2 : off = off') (e3 : len = len') (h : k < m) : LeX m m' (.gsl k ver off len sz) (.gsl k ver' off' len' sz) := by
  subst e1; subst e2; subst e3; exact .same (by simpa [V.bd] using h)
theorem LeX.fowEq {m m' k i i' sz : Nat} {xs ys : List (List T)} (e : i = i') (e2 : xs = ys) (h : k < m) : LeX m m' (.fow k i sz xs) (.fow k i' sz ys) := by
  subst e; subst e2; exact .same (by simpa [V.bd] using h)
end Go.GB


/-
  GbYr: calls in bigger stores: the callee knows some of the caller's objects, by its own names.
-/
namespace Go.GB
section
variable {P : Program}

mutual
/-- a value under other names -/
def V.ren (ρ : Nat → Nat) : V → V
  | .t x => .t x
  | .nils => .nils
  | .top => .top
  | .own k sz xs => .own (ρ k) sz xs
  | .slc k o l s => .slc (ρ k) o l s
  | .ptr k o => .ptr (ρ k) o
  | .mp k => .mp (ρ k)
  | .fn f cs => .fn f (cs.map fun c => (ρ c.1, c.2))
  | .agg cs => .agg (V.rens ρ cs)
  | .tup cs => .tup (V.rens ρ cs)
  | .gd c x => .gd c (x.ren ρ)
  | .ub c d => .ub c d
  | .ui k => .ui k
  | .fpt k i o => .fpt (ρ k) i o
  | .gpt k v o => .gpt (ρ k) v o
  | .gsl k v o l s => .gsl (ρ k) v o l s
  | .fow k i s xs => .fow (ρ k) i s xs
def V.rens (ρ : Nat → Nat) : List V → List V
  | [] => []
  | x :: r => x.ren ρ :: V.rens ρ r
end
theorem V.rens_eq (ρ : Nat → Nat) : ∀ (cs : List V), V.rens ρ cs = cs.map (V.ren ρ)
  | [] => rfl
  | x :: r => by simp [V.rens, V.rens_eq ρ r]

def AObj.ren (ρ : Nat → Nat) : AObj → AObj
  | .cells cs => .cells (V.rens ρ cs)
  | .map kag es st => .map kag (es.map fun e => (e.1, e.2.ren ρ)) st
  | .arr n => .arr n
  | .iter q s seen c => .iter (ρ q) s seen c
  | .gro v cs => .gro v (V.rens ρ cs)
  | .fobs os => .fobs (os.map (V.rens ρ))
  | .farr ns => .farr ns
  | .memo a I => .memo a I
  | .abs J => .abs J

structure Rn (ρ : Nat → Nat) (σ : Nat → Option Nat) (m1 m n : Nat) : Prop where
  inv : ∀ k j, σ k = some j → ρ j = k ∧ j < m1 + n
  at_ : ∀ j, j < m1 + n → σ (ρ j) = some j
  low : ∀ j, j < m1 → ρ j < m
  new : ∀ j, m1 ≤ j → j < m1 + n → ρ j = m + (j - m1)

/-- what the callee sees -/
def L.view (Λ : L) (ρ : Nat → Nat) (σ : Nat → Option Nat) (m1 : Nat) : L where
  lab := fun b => match Λ.lab b with
    | .obj k => match σ k with | some j => .obj j | none => .fix (some 0)
    | .arr k fr => match σ k with | some j => .arr j fr | none => .fix (some fr)
    | .fob k i => match σ k with | some j => .fob j i | none => .fix (some 0)
    | .far k i fr => match σ k with | some j => .far j i fr | none => .fix (some fr)
    | x => x
  fro := fun j => if j < m1 then Λ.fro (ρ j) else 0
  nxt := m1
  w := Λ.w
  frf := fun j i => if j < m1 then Λ.frf (ρ j) i else 0

/-- a block that the callee does not see as an object -/
def L.hid (Λ : L) (σ : Nat → Option Nat) (b : Nat) : Bool :=
  match Λ.lab b with
  | .obj k => (σ k).isNone
  | .arr k _ => (σ k).isNone
  | .fob k _ => (σ k).isNone
  | .far k _ _ => (σ k).isNone
  | _ => false

def Lab.ren (ρ : Nat → Nat) : Lab → Lab
  | .obj k => .obj (ρ k)
  | .arr k fr => .arr (ρ k) fr
  | .fob k i => .fob (ρ k) i
  | .far k i fr => .far (ρ k) i fr
  | x => x

/-- the caller's labels behind the call -/
def L.unview (Λ : L) (ρ : Nat → Nat) (σ : Nat → Option Nat) (Λ' : L) : L where
  lab := fun b => if Λ.hid σ b then Λ.lab b else (Λ'.lab b).ren ρ
  fro := fun k => match σ k with | some j => Λ'.fro j | none => Λ.fro k
  nxt := Λ.nxt
  w := Λ'.w
  frf := fun k i => match σ k with | some j => Λ'.frf j i | none => Λ.frf k i

variable {ρ : Nat → Nat} {σ : Nat → Option Nat} {m1 m n : Nat}

theorem view_hid {Λ : L} {b : Nat} (h : Λ.hid σ b = true) : ∃ fr, (Λ.view ρ σ m1).lab b = .fix (some fr) ∧ ((∃ k, Λ.lab b = .obj k ∧ σ k = none ∧ fr = 0) ∨ (∃ k, Λ.lab b = .arr k fr ∧ σ k = none) ∨ (∃ k i, Λ.lab b = .fob k i ∧ σ k = none ∧ fr = 0) ∨ ∃ k i, Λ.lab b = .far k i fr ∧ σ k = none) := by
  unfold L.hid at h
  simp only [L.view]
  cases hl : Λ.lab b with
  | fix fr => rw [hl] at h; simp at h
  | obj k => rw [hl] at h; simp at h; exact ⟨0, by simp [h], .inl ⟨k, rfl, h, rfl⟩⟩
  | arr k fr => rw [hl] at h; simp at h; exact ⟨fr, by simp [h], .inr (.inl ⟨k, rfl, h⟩)⟩
  | fob k i => rw [hl] at h; simp at h; exact ⟨0, by simp [h], .inr (.inr (.inl ⟨k, i, rfl, h, rfl⟩))⟩
  | far k i fr => rw [hl] at h; simp at h; exact ⟨fr, by simp [h], .inr (.inr (.inr ⟨k, i, rfl, h⟩))⟩
theorem view_obj {Λ : L} {b k j : Nat} (h : Λ.lab b = .obj k) (hk : σ k = some j) : (Λ.view ρ σ m1).lab b = .obj j := by simp [L.view, h, hk]
theorem view_arr {Λ : L} {b k j fr : Nat} (h : Λ.lab b = .arr k fr) (hk : σ k = some j) : (Λ.view ρ σ m1).lab b = .arr j fr := by simp [L.view, h, hk]
theorem view_fob {Λ : L} {b k j i : Nat} (h : Λ.lab b = .fob k i) (hk : σ k = some j) : (Λ.view ρ σ m1).lab b = .fob j i := by simp [L.view, h, hk]
theorem view_far {Λ : L} {b k j i fr : Nat} (h : Λ.lab b = .far k i fr) (hk : σ k = some j) : (Λ.view ρ σ m1).lab b = .far j i fr := by simp [L.view, h, hk]
theorem view_fix {Λ : L} {b : Nat} {fr : Option Nat} (h : Λ.lab b = .fix fr) : (Λ.view ρ σ m1).lab b = .fix fr := by simp [L.view, h]
theorem view_obj_inv {Λ : L} {b j : Nat} (h : (Λ.view ρ σ m1).lab b = .obj j) : ∃ k, Λ.lab b = .obj k ∧ σ k = some j := by
  simp only [L.view] at h
  cases hl : Λ.lab b with
  | fix fr => simp [hl] at h
  | obj k => simp only [hl] at h; split at h <;> simp_all
  | arr k fr => simp only [hl] at h; split at h <;> simp_all
  | fob k i => simp only [hl] at h; split at h <;> simp_all
  | far k i fr => simp only [hl] at h; split at h <;> simp_all
theorem view_arr_inv {Λ : L} {b j fr : Nat} (h : (Λ.view ρ σ m1).lab b = .arr j fr) : ∃ k, Λ.lab b = .arr k fr ∧ σ k = some j := by
  simp only [L.view] at h
  cases hl : Λ.lab b with
  | fix fr => simp [hl] at h
  | obj k => simp only [hl] at h; split at h <;> simp_all
  | arr k fr => simp only [hl] at h; split at h <;> simp_all
  | fob k i => simp only [hl] at h; split at h <;> simp_all
  | far k i fr => simp only [hl] at h; split at h <;> simp_all
theorem view_fob_inv {Λ : L} {b j i : Nat} (h : (Λ.view ρ σ m1).lab b = .fob j i) : ∃ k, Λ.lab b = .fob k i ∧ σ k = some j := by
  simp only [L.view] at h
  cases hl : Λ.lab b with
  | fix fr => simp [hl] at h
  | obj k => simp only [hl] at h; split at h <;> simp_all
  | arr k fr => simp only [hl] at h; split at h <;> simp_all
  | fob k i => simp only [hl] at h; split at h <;> simp_all
  | far k i fr => simp only [hl] at h; split at h <;> simp_all
theorem view_far_inv {Λ : L} {b j i fr : Nat} (h : (Λ.view ρ σ m1).lab b = .far j i fr) : ∃ k, Λ.lab b = .far k i fr ∧ σ k = some j := by
  simp only [L.view] at h
  cases hl : Λ.lab b with
  | fix fr => simp [hl] at h
  | obj k => simp only [hl] at h; split at h <;> simp_all
  | arr k fr => simp only [hl] at h; split at h <;> simp_all
  | fob k i => simp only [hl] at h; split at h <;> simp_all
  | far k i fr => simp only [hl] at h; split at h <;> simp_all
theorem view_rd {Λ : L} {b o : Nat} (h : Rd Λ.lab b o) : Rd (Λ.view ρ σ m1).lab b o := by
  unfold Rd at *
  cases hl : Λ.lab b with
  | fix fr => rw [view_fix hl]; rw [hl] at h; exact h
  | obj k => rw [hl] at h; exact h.elim
  | arr k fr =>
    rw [hl] at h
    cases hk : σ k with
    | some j => rw [view_arr hl hk]; exact h
    | none => simp only [L.view, hl, hk]; exact h
  | fob k i => rw [hl] at h; exact h.elim
  | far k i fr =>
    rw [hl] at h
    cases hk : σ k with
    | some j => rw [view_far hl hk]; exact h
    | none => simp only [L.view, hl, hk]; exact h
theorem RepT.view {Λ : L} {v : Value} {x : T} (h : RepT Λ.lab Λ.w v x) : RepT (Λ.view ρ σ m1).lab (Λ.view ρ σ m1).w v x := h.keep fun _ _ _ _ hr => ⟨view_rd hr, rfl⟩

theorem view_cur (hn : Rn ρ σ m1 m n) {Λ : L} {b k j : Nat} (h : GCur Λ.lab k b) (hk : σ k = some j) : GCur (Λ.view ρ σ m1).lab j b := by
  obtain ⟨i, e1, e2⟩ := h
  refine ⟨i, view_fob e1 hk, fun b' i' h' => ?_⟩
  obtain ⟨k', a1, a2⟩ := view_fob_inv h'
  have h1 := (hn.inv _ _ a2).1
  have h2 := (hn.inv _ _ hk).1
  rw [← h1, h2] at a1
  exact e2 b' i' a1

theorem RelV.view (hn : Rn ρ σ m1 m n) {Λ : L} {v : Value} {y : V} (h : RelV Λ v y) : ∀ {x : V}, x.ren ρ = y → x.bd m1 = true → RelV (Λ.view ρ σ m1) v x := by
  induction h with
  | t h => intro x hx hb; cases x <;> simp [V.ren] at hx; subst hx; exact .t h.view
  | nils => intro x hx hb; cases x <;> simp [V.ren] at hx; exact .nils
  | @own v k sz xs h hsz hl hm ho =>
    intro x hx hb; cases x <;> simp [V.ren] at hx
    rename_i j sz' xs'
    obtain ⟨e1, rfl, rfl⟩ := hx
    have hj : j < m1 := by simpa [V.bd] using hb
    have hf : (Λ.view ρ σ m1).fro j = Λ.fro k := by simp [L.view, hj, e1]
    have hs : σ k = some j := by rw [← e1]; exact hn.at_ j (by omega)
    refine .own h.view hsz hj (by rw [hf]; exact hm) fun he => ?_
    rcases ho (by rw [← hf]; exact he) with ho | ⟨b, cap, arr, e, hv, hb', hh, hc, hn'⟩
    · exact .inl ho
    · exact .inr ⟨b, cap, arr, e, hv, view_arr hb' hs, hh, hc, hn'⟩
  | @slc b k off len cap sz hl hc h =>
    intro x hx hb; cases x <;> simp [V.ren] at hx
    rename_i j _ _ _
    obtain ⟨e1, rfl, rfl, rfl⟩ := hx
    have hj : j < m1 := by simpa [V.bd] using hb
    exact .slc hj hc (view_obj h (by rw [← e1]; exact hn.at_ j (by omega)))
  | @agg vs cs hs hv ih =>
    intro x hx hb; cases x <;> simp [V.ren] at hx
    rename_i ds
    rw [V.rens_eq] at hx; subst hx
    refine .agg (by simpa using hs) fun j v c h1 h2 => ih j v (c.ren ρ) h1 (by simp [h2]) rfl (V.bds_at (by simpa [V.bd] using hb) j c h2)
  | @tup vs cs hs hv ih =>
    intro x hx hb; cases x <;> simp [V.ren] at hx
    rename_i ds
    rw [V.rens_eq] at hx; subst hx
    refine .tup (by simpa using hs) fun j v c h1 h2 => ih j v (c.ren ρ) h1 (by simp [h2]) rfl (V.bds_at (by simpa [V.bd] using hb) j c h2)
  | @ptr b k off hl h =>
    intro x hx hb; cases x <;> simp [V.ren] at hx
    rename_i j _
    obtain ⟨e1, rfl⟩ := hx
    have hj : j < m1 := by simpa [V.bd] using hb
    exact .ptr hj (view_obj h (by rw [← e1]; exact hn.at_ j (by omega)))
  | @mp b k hl h =>
    intro x hx hb; cases x <;> simp [V.ren] at hx
    rename_i j
    have hj : j < m1 := by simpa [V.bd] using hb
    exact .mp hj (view_obj h (by rw [← hx]; exact hn.at_ j (by omega)))
  | @fn f vs cs hs h =>
    intro x hx hb; cases x <;> simp [V.ren] at hx
    obtain ⟨rfl, rfl⟩ := hx
    rename_i ds
    refine .fn (by simpa using hs) fun j v c h1 h2 => ?_
    obtain ⟨b, e1, e2, e3⟩ := h j v (ρ c.1, c.2) h1 (by simp only [List.getElem?_map, h2, Option.map_some])
    have hk : c.1 < m1 := by
      simp only [V.bd, List.all_eq_true, decide_eq_true_eq] at hb
      exact hb c (List.mem_of_getElem? h2)
    exact ⟨b, e1, view_obj e2 (hn.at_ c.1 (by omega)), hk⟩
  | gd _ h' ih =>
    intro x hx hb; cases x <;> simp [V.ren] at hx
    obtain ⟨rfl, e⟩ := hx
    exact .gd (fun hc => ih hc e (by simpa [V.bd] using hb)) h'
  | top => intro x hx hb; cases x <;> simp [V.ren] at hx; exact .top
  | ub h h' => intro x hx hb; cases x <;> simp only [V.ren, V.ub.injEq, reduceCtorEq] at hx; obtain ⟨rfl, rfl⟩ := hx; exact .ub h h'
  | ui => intro x hx hb; cases x <;> simp only [V.ren, V.ui.injEq, reduceCtorEq] at hx; subst hx; exact .ui
  | @fpt b k i off hl h =>
    intro x hx hb; cases x <;> simp [V.ren] at hx
    rename_i j _ _
    obtain ⟨e1, rfl, rfl⟩ := hx
    have hj : j < m1 := by simpa [V.bd] using hb
    exact .fpt hj (view_fob h (by rw [← e1]; exact hn.at_ j (by omega)))
  | @gpt v k ver off hv hl hm h =>
    intro x hx hb; cases x <;> simp [V.ren] at hx
    rename_i j _ _
    obtain ⟨e1, rfl, rfl⟩ := hx
    have hj : j < m1 := by simpa [V.bd] using hb
    have hf : (Λ.view ρ σ m1).frf j 0 = Λ.frf k 0 := by simp [L.view, hj, e1]
    have hs : σ k = some j := by rw [← e1]; exact hn.at_ j (by omega)
    refine .gpt hv hj (by rw [hf]; exact hm) fun he => ?_
    obtain ⟨b, e1, e2⟩ := h (by rw [← hf]; exact he)
    exact ⟨b, e1, view_cur hn e2 hs⟩
  | @gsl v k ver off len sz hv hl hm h =>
    intro x hx hb; cases x <;> simp [V.ren] at hx
    rename_i j _ _ _ _
    obtain ⟨e1, rfl, rfl, rfl, rfl⟩ := hx
    have hj : j < m1 := by simpa [V.bd] using hb
    have hf : (Λ.view ρ σ m1).frf j 0 = Λ.frf k 0 := by simp [L.view, hj, e1]
    have hs : σ k = some j := by rw [← e1]; exact hn.at_ j (by omega)
    refine .gsl hv hj (by rw [hf]; exact hm) fun he => ?_
    rcases h (by rw [← hf]; exact he) with h | ⟨b, cap, N, hv, hc, e2, hN, he'⟩
    · exact .inl h
    · exact .inr ⟨b, cap, N, hv, hc, view_cur hn e2 hs, hN, he'⟩
  | @fow v k i sz xs h hsz hl hm ho =>
    intro x hx hb; cases x <;> simp [V.ren] at hx
    rename_i j _ _ _
    obtain ⟨e1, rfl, rfl, rfl⟩ := hx
    have hj : j < m1 := by simpa [V.bd] using hb
    have hf : ∀ i, (Λ.view ρ σ m1).frf j i = Λ.frf k i := by intro i; simp [L.view, hj, e1]
    have hs : σ k = some j := by rw [← e1]; exact hn.at_ j (by omega)
    refine .fow h.view hsz hj (by rw [hf]; exact hm) fun he => ?_
    rcases ho (by rw [← hf]; exact he) with ho | ⟨b, cap, arr, e, hv, hb', hh, hc, hn'⟩
    · exact .inl ho
    · exact .inr ⟨b, cap, arr, e, hv, view_far hb' hs, hh, hc, hn'⟩

theorem aget_asets_ren (hn : Rn ρ σ m1 m n) : ∀ (ob : List (Nat × AObj)) (s s1 : List (Nat × AObj)), (∀ j, j < m1 + n → aget s (ρ j) = (aget s1 j).map (AObj.ren ρ)) → (∀ j o, (j, o) ∈ ob → j < m1 + n) →
    (∀ j, j < m1 + n → aget (asets s (ob.map fun e => (ρ e.1, e.2.ren ρ))) (ρ j) = (aget (asets s1 ob) j).map (AObj.ren ρ)) ∧ (∀ k, σ k = none → aget (asets s (ob.map fun e => (ρ e.1, e.2.ren ρ))) k = aget s k)
  | [], s, s1, h, _ => ⟨h, fun _ _ => rfl⟩
  | (i, o) :: r, s, s1, h, hb => by
    simp only [List.map_cons, asets]
    have hi : i < m1 + n := hb i o (by simp)
    obtain ⟨g1, g2⟩ := aget_asets_ren hn r (aset s (ρ i) (o.ren ρ)) (aset s1 i o) (fun j hj => by
      rw [aget_aset, aget_aset]
      by_cases e : i = j
      · subst e; simp
      · have : ρ i ≠ ρ j := by
          intro e'
          have h1 := hn.at_ i hi
          have h2 := hn.at_ j hj
          rw [e', h2] at h1
          simp at h1; exact e h1.symm
        simp only [e, this, if_false]; exact h j hj) (fun j o hj => hb j o (by simp [hj]))
    refine ⟨g1, fun k hk => ?_⟩
    rw [g2 k hk, aget_aset]
    have : ρ i ≠ k := by rintro rfl; rw [hn.at_ i hi] at hk; cases hk
    simp [this]

theorem FnOk.ren {out : Out} (hn : Rn ρ σ m1 m out.n) {f : FuncId} {vs : List V} {sto s1 : List (Nat × AObj)} (h : FnOk P f vs ⟨s1, m1⟩ out) (hb : V.bds m1 vs = true) (hs : stoBd m1 s1 = true)
    (hsub : ∀ j, j < m1 → aget sto (ρ j) = (aget s1 j).map (AObj.ren ρ)) (hob : ∀ k o, (k, o) ∈ out.ob → k < m1 + out.n ∧ (aget s1 k ≠ none ∨ m1 ≤ k)) :
    FnAt P f (V.rens ρ vs) m sto { v := out.v.ren ρ, ob := out.ob.map fun e => (ρ e.1, e.2.ren ρ), n := out.n, rd := true } := by
  refine ⟨h.1, fun k o hk => ?_, fun Λ args hr hle hfree hsz hargs => ?_⟩
  · simp only [List.mem_map] at hk
    obtain ⟨⟨j, o'⟩, hj, e⟩ := hk
    simp at e
    obtain ⟨rfl, rfl⟩ := e
    obtain ⟨h1, h2⟩ := hob j o' hj
    by_cases hj1 : j < m1
    · left
      rcases h2 with h2 | h2
      · rw [hsub j hj1]; simpa using h2
      · omega
    · right
      have := hn.new j (by omega) h1
      show m ≤ ρ j ∧ ρ j < m + out.n
      omega
  simp only at hle hfree
  -- names that are new bear nothing
  have hfresh : ∀ {b k j : Nat}, σ k = some j → (Λ.lab b = .obj k ∨ ∃ fr, Λ.lab b = .arr k fr) → j < m1 := by
    intro b k j hk hl
    obtain ⟨e, hj⟩ := hn.inv k j hk
    rcases Nat.lt_or_ge j m1 with h | h
    · exact h
    · have e2 := hn.new j h hj
      have := (hfree k (by omega) (by omega)).2.1
      rcases hl with hl | ⟨fr, hl⟩
      · exact absurd hl (this.obj b)
      · exact absurd hl (this.arr b fr)
  have hfreshF : ∀ {b k j : Nat}, σ k = some j → ((∃ i, Λ.lab b = .fob k i) ∨ ∃ i fr, Λ.lab b = .far k i fr) → j < m1 := by
    intro b k j hk hl
    obtain ⟨e, hj⟩ := hn.inv k j hk
    rcases Nat.lt_or_ge j m1 with h | h
    · exact h
    · have e2 := hn.new j h hj
      have := (hfree k (by omega) (by omega)).2.1
      rcases hl with ⟨i, hl⟩ | ⟨i, fr, hl⟩
      · exact absurd hl (this.fob b i)
      · exact absurd hl (this.far b i fr)
  have hr1 : RelS (Λ.view ρ σ m1) ⟨s1, m1⟩ := by
    refine ⟨fun j o hj => ?_, fun b b' j h1 h2 => ?_, fun b hb => ?_, fun b j hb => ?_, fun j hj => ?_, fun b b' j i h1 h2 => ?_, fun b j hb => ?_, fun j i hj => ?_⟩
    · obtain ⟨h1, h2⟩ := stoBd_at hs j o hj
      refine ⟨h1, ?_⟩
      have hro := (hr.sto (ρ j) (o.ren ρ) (by rw [hsub j h1, hj]; rfl)).2
      have hs' := hn.at_ j (by omega)
      cases o with
      | cells cs =>
        obtain ⟨b, arr, e, e1, e2, e3, e4⟩ := hro
        rw [V.rens_eq] at e3 e4
        exact ⟨b, arr, e, view_obj e1 hs', e2, by simpa using e3, fun i v c a1 a2 => (e4 i v (c.ren ρ) a1 (by simp [a2])).view hn rfl (V.bds_at (by simpa [AObj.bd] using h2) i c a2)⟩
      | map kag es sx =>
        obtain ⟨b, ents, clock, e1, e2, e3⟩ := hro
        refine ⟨b, ents, clock, view_obj e1 hs', e2, ⟨by simpa using e3.size, fun i e kv a1 a2 => ?_, e3.born, e3.apart, e3.known⟩⟩
        obtain ⟨g1, g2⟩ := e3.at_ i e (kv.1, kv.2.ren ρ) a1 (by simp [a2])
        exact ⟨g1.keep fun _ _ h => h.view, g2.view hn rfl (V.bds_at (by simpa [AObj.bd] using h2) i kv.2 (by simp [a2]))⟩
      | arr n => have hro' : Λ.fro (ρ j) = n := hro
                 unfold RelO; simp [L.view, h1, hro']
      | iter q s seen c =>
        have hq : q < m1 := by simpa [AObj.bd] using h2
        obtain ⟨b, bm, e1, e2, e3, e4⟩ := hro
        exact ⟨b, bm, view_obj e1 hs', e2, view_obj e3 (hn.at_ q (by omega)), hq⟩
      | gro ver cs =>
        obtain ⟨q0, q⟩ := hro
        rw [V.rens_eq] at q
        refine ⟨by simpa [L.view, h1] using q0, ?_⟩
        rcases q with ⟨e1, e2⟩ | ⟨b, arr, e, e1, e2, e3, e4⟩
        · refine .inl ⟨by simpa using e1, fun b i hb => ?_⟩
          obtain ⟨k, a1, a2⟩ := view_fob_inv hb
          have := (hn.inv _ _ a2).1
          subst this
          exact e2 b i a1
        · exact .inr ⟨b, arr, e, view_cur hn e1 hs', e2, by simpa using e3, fun i v c a1 a2 => (e4 i v (c.ren ρ) a1 (by simp [a2])).view hn rfl (V.bds_at (by simpa [AObj.bd] using h2) i c a2)⟩
      | fobs os =>
        obtain ⟨q0, q⟩ := hro
        refine ⟨fun b i hb => ?_, fun i cs hi => ?_⟩
        · obtain ⟨k, a1, a2⟩ := view_fob_inv hb
          have := (hn.inv _ _ a2).1
          subst this
          simpa using q0 b i a1
        · obtain ⟨b, arr, e, e1, e2, e3, e4⟩ := q i (V.rens ρ cs) (by simp [hi])
          rw [V.rens_eq] at e3 e4
          have hbd : V.bds m1 cs = true := by
            simp only [AObj.bd, List.all_eq_true] at h2
            exact h2 cs (List.mem_of_getElem? hi)
          exact ⟨b, arr, e, view_fob e1 hs', e2, by simpa using e3, fun i v c a1 a2 => (e4 i v (c.ren ρ) a1 (by simp [a2])).view hn rfl (V.bds_at hbd i c a2)⟩
      | farr ns => intro i; have := hro i; simpa [L.view, h1] using this
      | memo kag I =>
        obtain ⟨b, ents, clock, e1, e2, e3, e4, e5⟩ := hro
        refine ⟨b, ents, clock, view_obj e1 hs', e2, e3, e4, fun i e hi => ?_⟩
        obtain ⟨cs, v, q1, q2, q3⟩ := e5 i e hi
        exact ⟨cs, v, q1.keep fun _ _ h => h.view, q2.view, q3⟩
      | abs J =>
        refine ⟨hro.1, by simp [L.view, h1, hro.2.1], hro.1 _ _ _ _ _ _ (fun _ _ h => h.view) (fun b i => ⟨fun h => view_fob h hs', fun h => ?_⟩) (fun _ _ _ => rfl) hro.2.2⟩
        obtain ⟨k, a1, a2⟩ := view_fob_inv h
        have := (hn.inv _ _ a2).1
        subst this
        exact a1
    · obtain ⟨k, a1, a2⟩ := view_obj_inv h1
      obtain ⟨k', b1, b2⟩ := view_obj_inv h2
      have := (hn.inv _ _ a2).1
      have := (hn.inv _ _ b2).1
      subst_vars
      exact hr.inj b b' _ a1 b1
    · exact view_fix (hr.new b hb)
    · rcases hb with hb | ⟨fr, hb⟩
      · obtain ⟨k, a1, a2⟩ := view_obj_inv hb; exact hfresh a2 (.inl a1)
      · obtain ⟨k, a1, a2⟩ := view_arr_inv hb; exact hfresh a2 (.inr ⟨_, a1⟩)
    · have hj' : m1 ≤ j := hj
      simp [L.view]; omega
    · obtain ⟨k, a1, a2⟩ := view_fob_inv h1
      obtain ⟨k', b1, b2⟩ := view_fob_inv h2
      have := (hn.inv _ _ a2).1
      have := (hn.inv _ _ b2).1
      subst_vars
      exact hr.injF b b' _ i a1 b1
    · rcases hb with ⟨i, hb⟩ | ⟨i, fr, hb⟩
      · obtain ⟨k, a1, a2⟩ := view_fob_inv hb; exact hfreshF a2 (.inl ⟨_, a1⟩)
      · obtain ⟨k, a1, a2⟩ := view_far_inv hb; exact hfreshF a2 (.inr ⟨_, _, a1⟩)
    · have hj' : m1 ≤ j := hj
      simp [L.view]; omega
  refine (h.2 (Λ.view ρ σ m1) args hr1 rfl (by rw [hsz, V.rens_eq]; simp) fun j v y h1 h2 => (hargs j v (y.ren ρ) h1 (by rw [V.rens_eq]; simp [h2])).view hn rfl (V.bds_at hb j y h2)).mono fun e w' he => ?_
  obtain ⟨v, Λ', rfl, rfl, k1, k2, k3, k4⟩ := he
  simp only at k2 k3
  have hlt : ∀ {b : Nat}, Λ.hid σ b = true → b < Λ.w.heap.size := by
    intro b hh
    rcases Nat.lt_or_ge b Λ.w.heap.size with h | h
    · exact h
    · unfold L.hid at hh; rw [hr.new b h] at hh; simp at hh
  have hH : ∀ {b : Nat}, Λ.hid σ b = true → (Λ.unview ρ σ Λ').lab b = Λ.lab b := fun h => by simp [L.unview, h]
  have hL : ∀ {b : Nat}, Λ.hid σ b = false → (Λ.unview ρ σ Λ').lab b = (Λ'.lab b).ren ρ := fun h => by simp [L.unview, h]
  have hheap : ∀ {b : Nat}, Λ.hid σ b = true → ∃ fr, Λ'.lab b = .fix (some fr) ∧ Λ'.w.heap[b]? = Λ.w.heap[b]? ∧ ((∃ k, Λ.lab b = .obj k ∧ σ k = none ∧ fr = 0) ∨ (∃ k, Λ.lab b = .arr k fr ∧ σ k = none) ∨ (∃ k i, Λ.lab b = .fob k i ∧ σ k = none ∧ fr = 0) ∨ ∃ k i, Λ.lab b = .far k i fr ∧ σ k = none) := by
    intro b hh
    obtain ⟨fr, e1, e2⟩ := view_hid (ρ := ρ) (m1 := m1) hh
    obtain ⟨g1, g2⟩ := k1.fr.fix b (hlt hh) _ e1
    exact ⟨fr, g1, g2, e2⟩
  have hvis : ∀ {b k j : Nat}, σ k = some j → (Λ.lab b = .obj k ∨ ∃ fr, Λ.lab b = .arr k fr) → Λ.hid σ b = false := by
    intro b k j hk hb
    unfold L.hid
    rcases hb with hb | ⟨fr, hb⟩ <;> rw [hb] <;> simp [hk]
  have hvisF : ∀ {b k j : Nat}, σ k = some j → ((∃ i, Λ.lab b = .fob k i) ∨ ∃ i fr, Λ.lab b = .far k i fr) → Λ.hid σ b = false := by
    intro b k j hk hb
    unfold L.hid
    rcases hb with ⟨i, hb⟩ | ⟨i, fr, hb⟩ <;> rw [hb] <;> simp [hk]
  have hfix : ∀ {b : Nat} {fr : Option Nat}, Λ.lab b = .fix fr → Λ.hid σ b = false := by
    intro b fr hb; unfold L.hid; rw [hb]
  have rdren : ∀ {b o : Nat} {l : Nat → Lab}, l b = (Λ'.lab b).ren ρ → Rd Λ'.lab b o → Rd l b o := by
    intro b o l e h
    unfold Rd at *
    rw [e]
    cases hl : Λ'.lab b <;> rw [hl] at h <;> simp only [Lab.ren] <;> exact h
  have hinvF : ∀ {b k j i : Nat}, σ k = some j → (Λ.unview ρ σ Λ').lab b = .fob k i → Λ'.lab b = .fob j i := by
    intro b k j i hk hb
    cases hh : Λ.hid σ b with
    | true => rw [hH hh] at hb; have := hvisF hk (.inl ⟨i, hb⟩); rw [hh] at this; cases this
    | false =>
      rw [hL hh] at hb
      cases hl : Λ'.lab b <;> rw [hl] at hb <;> simp [Lab.ren] at hb
      rename_i j' i'
      obtain ⟨e1, rfl⟩ := hb
      have hb1 := k3.bndF b j' (.inl ⟨_, hl⟩)
      have hb2 := hn.at_ j' (by omega)
      rw [e1, hk] at hb2
      simp at hb2; subst hb2; rfl
  have hkp : Kp Λ (Λ.unview ρ σ Λ') := by
    refine ⟨⟨k1.fr.os, k1.fr.tape, k1.fr.output, k1.fr.size, fun b hb fr hl => ?_, fun b hb k fr hl o ho => ?_, fun b hb k i fr hl o ho => ?_⟩, Nat.le_refl _, fun b k _ hl => ?_, fun b k n _ hb hl hf => ?_, fun k hk => ?_, fun b k i _ hl => ?_, fun b k i n _ hb hl hf => ?_, fun k i hk => ?_, fun b k i hk hp hf hl => ?_⟩
    · obtain ⟨g1, g2⟩ := k1.fr.fix b hb fr (view_fix hl)
      exact ⟨by rw [hL (hfix hl), g1]; rfl, g2⟩
    · cases hk : σ k with
      | none =>
        have hh : Λ.hid σ b = true := by unfold L.hid; rw [hl]; simp [hk]
        obtain ⟨fr', g1, g2, g3⟩ := hheap hh
        exact ⟨by unfold Rd; rw [hH hh, hl]; exact ho, cell?_heap g2⟩
      | some j =>
        have hh := hvis hk (.inr ⟨_, hl⟩)
        obtain ⟨g1, g2⟩ := k1.fr.arr b hb j fr (view_arr hl hk) o ho
        exact ⟨rdren (hL hh) g1, g2⟩
    · cases hk : σ k with
      | none =>
        have hh : Λ.hid σ b = true := by unfold L.hid; rw [hl]; simp [hk]
        obtain ⟨fr', g1, g2, g3⟩ := hheap hh
        exact ⟨by unfold Rd; rw [hH hh, hl]; exact ho, cell?_heap g2⟩
      | some j =>
        have hh := hvisF hk (.inr ⟨_, _, hl⟩)
        obtain ⟨g1, g2⟩ := k1.fr.far b hb j i fr (view_far hl hk) o ho
        exact ⟨rdren (hL hh) g1, g2⟩
    · cases hk : σ k with
      | none => rw [hH (by unfold L.hid; rw [hl]; simp [hk])]; exact hl
      | some j =>
        rw [hL (hvis hk (.inl hl)), k1.obj b j (hfresh hk (.inl hl)) (view_obj hl hk)]
        simp only [Lab.ren, (hn.inv k j hk).1]
    · cases hk : σ k with
      | none =>
        have hh : Λ.hid σ b = true := by unfold L.hid; rw [hl]; simp [hk]
        obtain ⟨fr', g1, g2, g3⟩ := hheap hh
        exact ⟨by rw [hH hh]; exact hl, g2⟩
      | some j =>
        have hj := hfresh hk (.inr ⟨_, hl⟩)
        have e1 : (Λ.view ρ σ m1).fro j = Λ.fro k := by simp [L.view, hj, (hn.inv k j hk).1]
        have e2 : (Λ.unview ρ σ Λ').fro k = Λ'.fro j := by simp [L.unview, hk]
        obtain ⟨g1, g2⟩ := k1.own b j n hj hb (view_arr hl hk) (by rw [← e2, hf, e1])
        exact ⟨by rw [hL (hvis hk (.inr ⟨_, hl⟩)), g1]; simp only [Lab.ren, (hn.inv k j hk).1], g2⟩
    · cases hk' : σ k with
      | none => simp [L.unview, hk']
      | some j =>
        obtain ⟨e1, e2⟩ := hn.inv k j hk'
        simp only [L.unview, hk']
        by_cases hj : j < m1
        · have := k1.fro j hj
          simpa [L.view, hj, e1] using this
        · have e3 := hn.new j (by omega) e2
          rw [(hfree k (by omega) (by omega)).2.1.fro]; omega
    · cases hk : σ k with
      | none =>
        have hh : Λ.hid σ b = true := by unfold L.hid; rw [hl]; simp [hk]
        obtain ⟨fr', g1, g2, g3⟩ := hheap hh
        exact ⟨by rw [hH hh]; exact hl, fun N hN => by unfold rowSize at hN ⊢; show (match Λ'.w.heap[b]? with | some (.cells arr _ _) => some arr.size | _ => none) = _; rw [g2]; exact hN⟩
      | some j =>
        obtain ⟨g1, g2⟩ := k1.fob b j i (hfreshF hk (.inl ⟨_, hl⟩)) (view_fob hl hk)
        exact ⟨by rw [hL (hvisF hk (.inl ⟨_, hl⟩)), g1]; simp only [Lab.ren, (hn.inv k j hk).1], g2⟩
    · cases hk : σ k with
      | none =>
        have hh : Λ.hid σ b = true := by unfold L.hid; rw [hl]; simp [hk]
        obtain ⟨fr', g1, g2, g3⟩ := hheap hh
        exact ⟨by rw [hH hh]; exact hl, g2⟩
      | some j =>
        have hj := hfreshF hk (.inr ⟨_, _, hl⟩)
        have e1 : (Λ.view ρ σ m1).frf j i = Λ.frf k i := by simp [L.view, hj, (hn.inv k j hk).1]
        have e2 : (Λ.unview ρ σ Λ').frf k i = Λ'.frf j i := by simp [L.unview, hk]
        obtain ⟨g1, g2⟩ := k1.far b j i n hj hb (view_far hl hk) (by rw [← e2, hf, e1])
        exact ⟨by rw [hL (hvisF hk (.inr ⟨_, _, hl⟩)), g1]; simp only [Lab.ren, (hn.inv k j hk).1], g2⟩
    · cases hk' : σ k with
      | none => simp [L.unview, hk']
      | some j =>
        obtain ⟨e1, e2⟩ := hn.inv k j hk'
        simp only [L.unview, hk']
        by_cases hj : j < m1
        · have := k1.frf j i hj
          simpa [L.view, hj, e1] using this
        · have e3 := hn.new j (by omega) e2
          rw [(hfree k (by omega) (by omega)).2.1.frf]; omega
    · cases hk' : σ k with
      | none =>
        cases hh : Λ.hid σ b with
        | true => rw [hH hh] at hl; exact hl
        | false =>
          rw [hL hh] at hl
          cases hl' : Λ'.lab b <;> rw [hl'] at hl <;> simp [Lab.ren] at hl
          rename_i j' i'
          have hb1 := k3.bndF b j' (.inl ⟨_, hl'⟩)
          have hb2 := hn.at_ j' (by omega)
          rw [hl.1, hk'] at hb2; cases hb2
      | some j =>
        have hb1 := hinvF hk' hl
        obtain ⟨e1, e2⟩ := hn.inv k j hk'
        by_cases hj : j < m1
        · have e3 : (Λ.view ρ σ m1).frf j 0 = Λ.frf k 0 := by simp [L.view, hj, e1]
          have e4 : (Λ.unview ρ σ Λ').frf k 0 = Λ'.frf j 0 := by simp [L.unview, hk']
          obtain ⟨k', a1, a2⟩ := view_fob_inv (k1.fobN b j i hj (by rw [e3]; exact hp) (by rw [← e4, hf, e3]) hb1)
          have := (hn.inv _ _ a2).1
          rw [← this, e1] at a1; exact a1
        · have e3 := hn.new j (by omega) e2
          have := (hfree k (by omega) (by omega)).2.1.frf 0; omega
  have hobj : ∀ {b j : Nat}, Λ'.lab b = .obj j → (Λ.unview ρ σ Λ').lab b = .obj (ρ j) := by
    intro b k hb
    cases hh : Λ.hid σ b with
    | true => obtain ⟨fr, g1, _⟩ := hheap hh; rw [g1] at hb; simp at hb
    | false => rw [hL hh, hb]; rfl
  have harr : ∀ {b j n : Nat}, Λ'.lab b = .arr j n → (Λ.unview ρ σ Λ').lab b = .arr (ρ j) n := by
    intro b k n hb
    cases hh : Λ.hid σ b with
    | true => obtain ⟨fr, g1, _⟩ := hheap hh; rw [g1] at hb; simp at hb
    | false => rw [hL hh, hb]; rfl
  have hfob : ∀ {b j i : Nat}, Λ'.lab b = .fob j i → (Λ.unview ρ σ Λ').lab b = .fob (ρ j) i := by
    intro b k i hb
    cases hh : Λ.hid σ b with
    | true => obtain ⟨fr, g1, _⟩ := hheap hh; rw [g1] at hb; simp at hb
    | false => rw [hL hh, hb]; rfl
  have hfar : ∀ {b j i n : Nat}, Λ'.lab b = .far j i n → (Λ.unview ρ σ Λ').lab b = .far (ρ j) i n := by
    intro b k i n hb
    cases hh : Λ.hid σ b with
    | true => obtain ⟨fr, g1, _⟩ := hheap hh; rw [g1] at hb; simp at hb
    | false => rw [hL hh, hb]; rfl
  have hcur : ∀ {b j : Nat}, j < m1 + out.n → GCur Λ'.lab j b → GCur (Λ.unview ρ σ Λ').lab (ρ j) b := by
    rintro b j hj ⟨i, e1, e2⟩
    exact ⟨i, hfob e1, fun b' i' h' => e2 b' i' (hinvF (hn.at_ j hj) h')⟩
  have hrep : ∀ {u : Value} {y : T}, RepT Λ'.lab Λ'.w u y → RepT (Λ.unview ρ σ Λ').lab (Λ.unview ρ σ Λ').w u y := by
    intro u y hy
    refine hy.keep fun b o _ _ hrd => ⟨?_, rfl⟩
    cases hh : Λ.hid σ b with
    | true =>
      obtain ⟨fr, g1, _, g3⟩ := hheap hh
      unfold Rd at hrd ⊢
      rw [g1] at hrd
      rw [hH hh]
      rcases g3 with ⟨k, e, _, rfl⟩ | ⟨k, e, _⟩ | ⟨k, i, e, _, rfl⟩ | ⟨k, i, e, _⟩
      · simp at hrd
      · rw [e]; exact hrd
      · simp at hrd
      · rw [e]; exact hrd
    | false => exact rdren (hL hh) hrd
  have hfro : ∀ {j : Nat}, j < m1 + out.n → (Λ.unview ρ σ Λ').fro (ρ j) = Λ'.fro j := by
    intro j hj; simp [L.unview, hn.at_ j hj]
  have hfrf : ∀ {j i : Nat}, j < m1 + out.n → (Λ.unview ρ σ Λ').frf (ρ j) i = Λ'.frf j i := by
    intro j i hj; simp [L.unview, hn.at_ j hj]
  have hρ : ∀ {j : Nat}, j < m1 + out.n → ρ j < Λ.nxt := by
    intro j hj
    by_cases h1 : j < m1
    · have := hn.low j h1; omega
    · have := hn.new j (by omega) hj; omega
  have hval : ∀ {u : Value} {y : V}, RelV Λ' u y → RelV (Λ.unview ρ σ Λ') u (y.ren ρ) := by
    intro u y hy
    induction hy with
    | t h => exact .t (hrep h)
    | nils => exact .nils
    | @own v k sz xs h hsz hl hn' ho =>
      rw [k2] at hl
      refine .own (hrep h) hsz (hρ hl) (by rw [hfro hl]; exact hn') fun he => ?_
      rcases ho (by rw [← hfro hl]; exact he) with ho | ⟨b, cap, arr, e, hv, hb', hh, hc, hn'⟩
      · exact .inl ho
      · exact .inr ⟨b, cap, arr, e, hv, harr hb', hh, hc, hn'⟩
    | slc hl hc h => exact .slc (hρ (by omega)) hc (hobj h)
    | agg hs _ ih =>
      refine .agg (by rw [V.rens_eq]; simpa using hs) fun j v c h1 h2 => ?_
      rw [V.rens_eq, List.getElem?_map, Option.map_eq_some_iff] at h2
      obtain ⟨c', h3, rfl⟩ := h2
      exact ih j v c' h1 h3
    | tup hs _ ih =>
      refine .tup (by rw [V.rens_eq]; simpa using hs) fun j v c h1 h2 => ?_
      rw [V.rens_eq, List.getElem?_map, Option.map_eq_some_iff] at h2
      obtain ⟨c', h3, rfl⟩ := h2
      exact ih j v c' h1 h3
    | ptr hl h => exact .ptr (hρ (by omega)) (hobj h)
    | mp hl h => exact .mp (hρ (by omega)) (hobj h)
    | fn hs h =>
      refine .fn (by simpa using hs) fun j v c h1 h2 => ?_
      rw [List.getElem?_map, Option.map_eq_some_iff] at h2
      obtain ⟨c', h3, rfl⟩ := h2
      obtain ⟨b, e1, e2, e3⟩ := h j v c' h1 h3
      exact ⟨b, e1, hobj e2, hρ (by omega)⟩
    | gd _ h' ih => exact .gd ih h'
    | top => exact .top
    | ub h h' => exact .ub h h'
    | ui => exact .ui
    | fpt hl h => exact .fpt (hρ (by omega)) (hfob h)
    | gpt hv hl hm h =>
      rw [k2] at hl
      refine .gpt hv (hρ hl) (by rw [hfrf hl]; exact hm) fun he => ?_
      obtain ⟨b, e1, e2⟩ := h (by rw [← hfrf hl]; exact he)
      exact ⟨b, e1, hcur hl e2⟩
    | gsl hv hl hm h =>
      rw [k2] at hl
      refine .gsl hv (hρ hl) (by rw [hfrf hl]; exact hm) fun he => ?_
      rcases h (by rw [← hfrf hl]; exact he) with h | ⟨b, cap, N, hv, hc, e2, hN, he'⟩
      · exact .inl h
      · exact .inr ⟨b, cap, N, hv, hc, hcur hl e2, hN, he'⟩
    | fow h hsz hl hm ho =>
      rw [k2] at hl
      refine .fow (hrep h) hsz (hρ hl) (by rw [hfrf hl]; exact hm) fun he => ?_
      rcases ho (by rw [← hfrf hl]; exact he) with ho | ⟨b, cap, arr, e, hv, hb', hh, hc, hn'⟩
      · exact .inl ho
      · exact .inr ⟨b, cap, arr, e, hv, hfar hb', hh, hc, hn'⟩
  have hname : ∀ {b k : Nat}, Λ.hid σ b = true → ((Λ.unview ρ σ Λ').lab b = .obj k ∨ ∃ n, (Λ.unview ρ σ Λ').lab b = .arr k n) → σ k = none ∧ (Λ.lab b = .obj k ∨ ∃ n, Λ.lab b = .arr k n) := by
    intro b k hh hb
    rw [hH hh] at hb
    refine ⟨?_, hb⟩
    unfold L.hid at hh; rcases hb with hb | ⟨n, hb⟩ <;> rw [hb] at hh <;> simpa using hh
  have hseen : ∀ {b k : Nat}, Λ.hid σ b = false → ((Λ.unview ρ σ Λ').lab b = .obj k ∨ ∃ n, (Λ.unview ρ σ Λ').lab b = .arr k n) → ∃ j, ρ j = k ∧ j < m1 + out.n ∧ (Λ'.lab b = .obj j ∨ ∃ n, Λ'.lab b = .arr j n) := by
    intro b k hh hb
    rw [hL hh] at hb
    cases hl : Λ'.lab b with
    | fix fr => rw [hl] at hb; simp [Lab.ren] at hb
    | obj j => rw [hl] at hb; simp [Lab.ren] at hb; have := k3.bnd b j (.inl hl); exact ⟨j, hb, by omega, .inl rfl⟩
    | arr j n => rw [hl] at hb; simp [Lab.ren] at hb; have := k3.bnd b j (.inr ⟨n, hl⟩); exact ⟨j, hb, by omega, .inr ⟨n, rfl⟩⟩
    | fob j i => rw [hl] at hb; simp [Lab.ren] at hb
    | far j i n => rw [hl] at hb; simp [Lab.ren] at hb
  have hseenF : ∀ {b k : Nat}, Λ.hid σ b = false → ((∃ i, (Λ.unview ρ σ Λ').lab b = .fob k i) ∨ ∃ i n, (Λ.unview ρ σ Λ').lab b = .far k i n) → ∃ j, ρ j = k ∧ j < m1 + out.n := by
    intro b k hh hb
    rw [hL hh] at hb
    cases hl : Λ'.lab b with
    | fix fr => rw [hl] at hb; simp [Lab.ren] at hb
    | obj j => rw [hl] at hb; simp [Lab.ren] at hb
    | arr j n => rw [hl] at hb; simp [Lab.ren] at hb
    | fob j i => rw [hl] at hb; simp [Lab.ren] at hb; have := k3.bndF b j (.inl ⟨i, hl⟩); exact ⟨j, hb, by omega⟩
    | far j i n => rw [hl] at hb; simp [Lab.ren] at hb; have := k3.bndF b j (.inr ⟨i, n, hl⟩); exact ⟨j, hb, by omega⟩
  obtain ⟨ag1, ag2⟩ := aget_asets_ren hn out.ob sto s1 (fun j hj => by
    by_cases h1 : j < m1
    · exact hsub j h1
    · have e3 := hn.new j (by omega) hj
      rw [(hfree (ρ j) (by omega) (by omega)).2.2]
      cases ha : aget s1 j with
      | none => rfl
      | some o => have := (stoBd_at hs j o ha).1; omega) (fun j o hj => (hob j o hj).1)
  refine ⟨v, Λ.unview ρ σ Λ', rfl, rfl, hkp, rfl, ?_, hval k4, fun k hk _ hcase => ?_⟩
  · refine ⟨fun k o ho => ?_, fun b b' k h1 h2 => ?_, fun b hb => ?_, fun b k hb => ?_, fun k hk => ?_, fun b b' k i h1 h2 => ?_, fun b k hb => ?_, fun k i hk => ?_⟩
    · cases hk : σ k with
      | none =>
        have ho' : aget sto k = some o := by rw [← ag2 k hk]; exact ho
        obtain ⟨g1, g2⟩ := hr.sto k o ho'
        refine ⟨g1, g2.mono hkp g1 (fun b hb => ?_) (by simp [L.unview, hk]) (fun b i hb => ?_) (fun b i hb => ?_) (fun i => by simp [L.unview, hk])⟩
        · obtain ⟨fr, q1, q2, _⟩ := hheap (b := b) (by unfold L.hid; rw [hb]; simp [hk])
          exact q2
        · obtain ⟨fr, q1, q2, _⟩ := hheap (b := b) (by unfold L.hid; rw [hb]; simp [hk])
          exact q2
        · cases hh : Λ.hid σ b with
          | true => rw [hH hh] at hb; exact hb
          | false => obtain ⟨j, e1, e2⟩ := hseenF hh (.inl ⟨i, hb⟩); rw [← e1, hn.at_ j e2] at hk; cases hk
      | some j =>
        obtain ⟨e1, e2⟩ := hn.inv k j hk
        subst e1
        have ho' : aget (asets sto (out.ob.map fun e => (ρ e.1, e.2.ren ρ))) (ρ j) = some o := ho
        rw [ag1 j e2, Option.map_eq_some_iff] at ho'
        obtain ⟨o1, a1, rfl⟩ := ho'
        obtain ⟨g1, g2⟩ := k3.sto j o1 a1
        refine ⟨hρ e2, ?_⟩
        cases o1 with
        | cells cs =>
          obtain ⟨b, arr, e, e1, e2, e3, e4⟩ := g2
          refine ⟨b, arr, e, hobj e1, e2, by rw [V.rens_eq]; simpa using e3, fun i v c a1 a2 => ?_⟩
          rw [V.rens_eq, List.getElem?_map, Option.map_eq_some_iff] at a2
          obtain ⟨c', a3, rfl⟩ := a2
          exact hval (e4 i v c' a1 a3)
        | map kag es sx =>
          obtain ⟨b, ents, clock, e1, e2, e3⟩ := g2
          refine ⟨b, ents, clock, hobj e1, e2, ⟨by simpa using e3.size, fun i e kv a1 a2 => ?_, e3.born, e3.apart, e3.known⟩⟩
          rw [List.getElem?_map, Option.map_eq_some_iff] at a2
          obtain ⟨kv', a3, rfl⟩ := a2
          obtain ⟨q1, q2⟩ := e3.at_ i e kv' a1 a3
          exact ⟨q1.keep fun _ _ h => hrep h, hval q2⟩
        | arr n' =>
          unfold RelO at *
          simp only [AObj.ren]
          rw [hfro e2]; exact g2
        | iter q s seen c =>
          obtain ⟨b, bm, a1, a2, a3, a4⟩ := g2
          exact ⟨b, bm, hobj a1, a2, hobj a3, hρ (by omega)⟩
        | gro ver cs =>
          obtain ⟨q0, q⟩ := g2
          refine ⟨by rw [hfrf e2]; exact q0, ?_⟩
          rw [V.rens_eq]
          rcases q with ⟨e3, e4⟩ | ⟨b, arr, e, e3, e4, e5, e6⟩
          · exact .inl ⟨by simp [e3], fun b i hb => e4 b i (hinvF (hn.at_ j e2) hb)⟩
          · refine .inr ⟨b, arr, e, hcur e2 e3, e4, by simpa using e5, fun i v c a1 a2 => ?_⟩
            rw [List.getElem?_map, Option.map_eq_some_iff] at a2
            obtain ⟨c', a3, rfl⟩ := a2
            exact hval (e6 i v c' a1 a3)
        | fobs os =>
          obtain ⟨q0, q⟩ := g2
          refine ⟨fun b i hb => by simpa using q0 b i (hinvF (hn.at_ j e2) hb), fun i cs hi => ?_⟩
          rw [List.getElem?_map, Option.map_eq_some_iff] at hi
          obtain ⟨cs', hi, rfl⟩ := hi
          obtain ⟨b, arr, e, e3, e4, e5, e6⟩ := q i cs' hi
          refine ⟨b, arr, e, hfob e3, e4, by rw [V.rens_eq]; simpa using e5, fun i v c a1 a2 => ?_⟩
          rw [V.rens_eq, List.getElem?_map, Option.map_eq_some_iff] at a2
          obtain ⟨c', a3, rfl⟩ := a2
          exact hval (e6 i v c' a1 a3)
        | farr ns => exact fun i => (hfrf e2).trans (g2 i)
        | memo kag I =>
          obtain ⟨b, ents, clock, e3, e4, e5, e6, e7⟩ := g2
          refine ⟨b, ents, clock, hobj e3, e4, e5, e6, fun i e hi => ?_⟩
          obtain ⟨cs, v, q1, q2, q3⟩ := e7 i e hi
          exact ⟨cs, v, q1.keep fun _ _ h => hrep h, hrep q2, q3⟩
        | abs J => exact ⟨g2.1, (hfrf e2).trans g2.2.1, g2.1 _ _ _ _ _ _ (fun _ _ h => hrep h) (fun b i => ⟨fun h => hfob h, fun h => hinvF (hn.at_ j e2) h⟩) (fun _ _ _ => rfl) g2.2.2⟩
    · cases hh : Λ.hid σ b with
      | true =>
        obtain ⟨q1, q2⟩ := hname hh (.inl h1)
        cases hh' : Λ.hid σ b' with
        | true =>
          rw [hH hh] at h1; rw [hH hh'] at h2
          exact hr.inj b b' k h1 h2
        | false =>
          obtain ⟨j, e1, e2, _⟩ := hseen hh' (.inl h2)
          rw [← e1, hn.at_ j e2] at q1; cases q1
      | false =>
        obtain ⟨j, e1, e2, _⟩ := hseen hh (.inl h1)
        cases hh' : Λ.hid σ b' with
        | true =>
          obtain ⟨q1, _⟩ := hname hh' (.inl h2)
          rw [← e1, hn.at_ j e2] at q1; cases q1
        | false =>
          rw [hL hh] at h1; rw [hL hh'] at h2
          cases hl : Λ'.lab b <;> rw [hl] at h1 <;> simp [Lab.ren] at h1
          cases hl' : Λ'.lab b' <;> rw [hl'] at h2 <;> simp [Lab.ren] at h2
          rename_i j1 j2
          have b1 := k3.bnd b j1 (.inl hl)
          have b2 := k3.bnd b' j2 (.inl hl')
          have c1 := hn.at_ j1 (by omega)
          have c2 := hn.at_ j2 (by omega)
          rw [h1] at c1; rw [h2, c1] at c2
          simp at c2; subst c2
          exact k3.inj b b' j1 hl hl'
    · have hge : Λ.w.heap.size ≤ b := Nat.le_trans k1.fr.size hb
      rw [hL (hfix (hr.new b hge)), k3.new b hb]; rfl
    · show k < Λ.nxt
      cases hh : Λ.hid σ b with
      | true => exact hr.bnd b k (hname hh hb).2
      | false => obtain ⟨j, rfl, e2, _⟩ := hseen hh hb; exact hρ e2
    · have hk' : Λ.nxt ≤ k := hk
      cases hs : σ k with
      | none => simp only [L.unview, hs]; exact hr.frz k hk'
      | some j => obtain ⟨rfl, e2⟩ := hn.inv k j hs; have := hρ e2; omega
    · cases hk : σ k with
      | some j => exact k3.injF b b' j i (hinvF hk h1) (hinvF hk h2)
      | none =>
        have hd : ∀ {b : Nat}, (Λ.unview ρ σ Λ').lab b = .fob k i → Λ.lab b = .fob k i := by
          intro b hb
          cases hh : Λ.hid σ b with
          | true => rw [hH hh] at hb; exact hb
          | false => obtain ⟨j, e1, e2⟩ := hseenF hh (.inl ⟨i, hb⟩); rw [← e1, hn.at_ j e2] at hk; cases hk
        exact hr.injF b b' k i (hd h1) (hd h2)
    · show k < Λ.nxt
      cases hh : Λ.hid σ b with
      | true => rw [hH hh] at hb; exact hr.bndF b k hb
      | false => obtain ⟨j, rfl, e2⟩ := hseenF hh hb; exact hρ e2
    · have hk' : Λ.nxt ≤ k := hk
      cases hs : σ k with
      | none => simp only [L.unview, hs]; exact hr.frzF k i hk'
      | some j => obtain ⟨rfl, e2⟩ := hn.inv k j hs; have := hρ e2; omega
  · have hge : m + out.n ≤ k := by
      rcases hcase with h | ⟨_, h⟩
      · exact h
      · cases h
    have hs0 : σ k = none := by
      cases hs : σ k with
      | none => rfl
      | some j =>
        obtain ⟨rfl, e2⟩ := hn.inv k j hs
        by_cases h1 : j < m1
        · have := hn.low j h1; omega
        · have := hn.new j (by omega) e2; omega
    refine ⟨fun b hb => ?_, fun b n hb => ?_, by simp only [L.unview, hs0]; exact hk.fro, fun b i hb => ?_, fun b i n hb => ?_, fun i => by simp only [L.unview, hs0]; exact hk.frf i⟩
    · cases hh : Λ.hid σ b with
      | true => rw [hH hh] at hb; exact hk.obj b hb
      | false => obtain ⟨j, e1, e2, _⟩ := hseen hh (.inl hb); rw [← e1, hn.at_ j e2] at hs0; cases hs0
    · cases hh : Λ.hid σ b with
      | true => rw [hH hh] at hb; exact hk.arr b n hb
      | false => obtain ⟨j, e1, e2, _⟩ := hseen hh (.inr ⟨n, hb⟩); rw [← e1, hn.at_ j e2] at hs0; cases hs0
    · cases hh : Λ.hid σ b with
      | true => rw [hH hh] at hb; exact hk.fob b i hb
      | false => obtain ⟨j, e1, e2⟩ := hseenF hh (.inl ⟨i, hb⟩); rw [← e1, hn.at_ j e2] at hs0; cases hs0
    · cases hh : Λ.hid σ b with
      | true => rw [hH hh] at hb; exact hk.far b i n hb
      | false => obtain ⟨j, e1, e2⟩ := hseenF hh (.inr ⟨i, n, hb⟩); rw [← e1, hn.at_ j e2] at hs0; cases hs0

mutual
theorem V.ren_id : ∀ v : V, v.ren id = v
  | .t x => rfl
  | .nils => rfl
  | .top => rfl
  | .own k sz xs => rfl
  | .slc k o l s => rfl
  | .ptr k o => rfl
  | .mp k => rfl
  | .fn f cs => by simp [V.ren]
  | .agg cs => by simp [V.ren, V.rens_id cs]
  | .tup cs => by simp [V.ren, V.rens_id cs]
  | .gd c x => by simp [V.ren, V.ren_id x]
  | .ub c d => rfl
  | .ui k => rfl
  | .fpt k i o => rfl
  | .gpt k v o => rfl
  | .gsl k v o l s => rfl
  | .fow k i s xs => rfl
theorem V.rens_id : ∀ cs : List V, V.rens id cs = cs
  | [] => rfl
  | x :: r => by simp [V.rens, V.ren_id x, V.rens_id r]
end
theorem AObj.ren_id : ∀ o : AObj, o.ren id = o
  | .cells cs => by simp [AObj.ren, V.rens_id]
  | .map kag es st => by
    simp only [AObj.ren, AObj.map.injEq, true_and, and_true]
    exact (List.map_congr_left fun e _ => by rw [V.ren_id]; rfl).trans (List.map_id _)
  | .arr n => rfl
  | .iter q s seen c => rfl
  | .gro v cs => by simp [AObj.ren, V.rens_id]
  | .fobs os => by simp [AObj.ren, show V.rens id = id from funext V.rens_id]
  | .farr ns => rfl
  | .memo a I => rfl
  | .abs J => rfl
/-- a call that is handed the whole store and leaves it as it is -/
theorem FnOk.wide {f : FuncId} {vs : List V} {x : V} {m : Nat} {sto : List (Nat × AObj)} (h : FnOk P f vs ⟨sto, m⟩ { v := x, rd := true }) (hb : V.bds m vs = true) (hs : stoBd m sto = true) : FnL P f vs m sto { v := x, rd := true } := by
  intro s hk
  have hrn : Rn id (fun k => if k < m then some k else none) m m 0 := by
    refine ⟨fun k j h => ?_, fun j hj => ?_, fun j hj => hj, fun j h1 h2 => ?_⟩
    · by_cases hkm : k < m
      · simp only [if_pos hkm, Option.some.injEq] at h; subst h; exact ⟨rfl, by omega⟩
      · simp only [if_neg hkm] at h; cases h
    · exact if_pos (by simpa using hj)
    · omega
  have := FnOk.ren (sto := s) (P := P) (out := { v := x, rd := true }) hrn h hb hs (fun j hj => by
    rw [id, hk j hj]
    cases aget sto j with
    | none => rfl
    | some o => simp [AObj.ren_id]) (fun k o hk => by simp at hk)
  rw [V.rens_id, V.ren_id] at this
  exact this
theorem callSame {f : FuncId} {vs : List V} {x : V} {base : Nat} {sto : List (Nat × AObj)} {K : Out → Prop} (h : FnOk P f vs ⟨sto, base⟩ { v := x, rd := true }) (hb : V.bds base vs = true) (hs : stoBd base sto = true) (hk : K { v := x, rd := true }) : FnEv P f vs base sto K :=
  ⟨_, by simp only [if_true]; exact h.wide hb hs, hk⟩
end
end Go.GB

