/-
  GbV: functions: their entry, their results, contracts, and calls of functions that are handed no objects.
-/
import Derived.Test.YticfklecmdjklaaGbU
namespace Go.GB

inductive ARes where
  | tmp (t : Nat)
  | cell (a : Nat) (ag : Bool) (n : Nat)

def resR (P : Program) : ResultVar → Option ARes
  | .tmp t => some (.tmp t)
  | .cell a t =>
    match szOf P t, P.underlying t with
    | some n, some _ => some (.cell a (isAggT P t) n)
    | _, _ => none

def ARes.v (st : St) : ARes → Option V
  | .tmp t => some (look st.env t)
  | .cell a ag n =>
    match look st.env a with
    | .ptr k o =>
      match aget st.s.sto k with
      | some (.cells cs) => if ag then (if o + n ≤ cs.length then some (.agg ((cs.drop o).take n)) else none) else cs[o]?
      | _ => none
    | _ => none

def ressV (st : St) : List ARes → Option V
  | [] => some (.tup [])
  | [r] => r.v st
  | [r, q] => match r.v st, q.v st with | some x, some y => some (.tup [x, y]) | _, _ => none
  | [r, q, p] => match r.v st, q.v st, p.v st with | some x, some y, some z => some (.tup [x, y, z]) | _, _, _ => none
  | _ => none

/-- what a proof must know of a function: its slots, its code, its results -/
def fnInfo (P : Program) (f : FuncId) : Option (Nat × ACode × List ARes) :=
  match P.funcs[f]? with
  | some fn =>
    match fn.body with
    | some c =>
      match resC P c, fn.results.toList.mapM (resR P) with
      | some a, some rs => if codeOk fn.ntmps c && !(fn.name == "runtime.NumGoroutine") then some (fn.ntmps, a, rs) else none
      | _, _ => none
    | none => none
  | none => none

def entryE : Nat → List V → List (Nat × V)
  | _, [] => []
  | i, x :: r => (i, x) :: entryE (i + 1) r

theorem look_entry : ∀ (vs : List V) (i t : Nat), look (entryE i vs) t = if i ≤ t then (vs[t - i]?).getD .top else .top
  | [], i, t => by simp [entryE, look, aget]
  | x :: r, i, t => by
    simp only [entryE]
    by_cases e : i = t
    · subst e; simp [look, aget]
    · have := look_entry r (i + 1) t
      simp only [look, aget, e, if_false] at this ⊢
      rw [this]
      by_cases h : i ≤ t
      · have : t - i = (t - (i + 1)) + 1 := by omega
        rw [if_pos (by omega), if_pos h, this]; simp
      · rw [if_neg (by omega), if_neg h]

/-- A function's contract: what it hands back and does to the objects that it is handed. -/
def FnOk (P : Program) (f : FuncId) (vs : List V) (s : S) (out : Out) : Prop :=
  HasB P f ∧ ∀ (Λ : L) (args : Array Value), RelS Λ s → Λ.nxt = s.nxt → args.size = vs.length → (∀ (j : Nat) (v : Value) (x : V), args[j]? = some v → vs[j]? = some x → RelV Λ v x) →
    Calls P f args Λ.w fun e w' => ∃ v Λ', e = .returned v ∧ Λ'.w = w' ∧ Kp Λ Λ' ∧ Λ'.nxt = s.nxt + out.n ∧ RelS Λ' ⟨asets s.sto out.ob, 0⟩ ∧ RelV Λ' v out.v

/-- how a result leaves: names from m on are forgotten; a slice that was made is as it stands -/
def LeR (m : Nat) (s : S) (r r' : V) : Prop := ∀ (Λ : L) (v : Value), m ≤ Λ.nxt → RelS Λ s → RelV Λ v r → RelV (Λ.cut m m) v r'

theorem LeR.le {m : Nat} {s : S} {r r' : V} (h : LeX m m r r') : LeR m s r r' := fun _ _ hm _ hr => h.cut (Nat.le_refl _) hm hr

theorem LeR.slc {m : Nat} {s : S} {k sz : Nat} {cs : List V} {ts : List T} {xs : List (List T)} (hk : m ≤ k) (hs : aget s.sto k = some (.cells cs)) (hts : cs.mapM V.cell1 = some ts) (hxs : xs.flatten = ts) (hl : allLen sz xs = true) :
    LeR m s (.slc k 0 xs.length sz) (.t (.lst xs)) := by
  intro Λ v hm hr hv
  generalize hn : xs.length = n at hv
  cases hv with
  | @slc b _ _ _ cap _ _ hc hb =>
    subst hn
    obtain ⟨arr, e, h2, h3, h4⟩ := hr.objCells hs hb
    obtain ⟨k1, k2⟩ := mapM_cell1 cs ts hts
    have hlab : (Λ.cut m m).lab b = .fix none := by simp [L.cut, hb]; omega
    have hall := allLen_at hl
    refine .t (rep_block (sz := sz) (vs := arr.toList) (b := b) (w := (Λ.cut m m).w) h2 hc rfl hall (fun o _ => by simp [Rd, hlab]) (fun j v hj => by simpa using hj) (by rw [Array.length_toList, h3, k1, ← hxs, flat_len xs hall]) fun j v x e1 e2 => ?_)
    rw [hxs] at e2
    have hlt : j < cs.length := by rw [k1]; exact (List.getElem?_eq_some_iff.1 e2).1
    have := h4 j v cs[j] (by simpa using e1) (by simp [hlt])
    exact (this.cell1 (k2 j _ x (by simp [hlt]) e2)).cut

inductive LeRs (m : Nat) (s : S) : List V → List V → Prop
  | nil : LeRs m s [] []
  | cons {x y : V} {xs ys : List V} (h : LeR m s x y) (t : LeRs m s xs ys) : LeRs m s (x :: xs) (y :: ys)
theorem LeRs.spec {m : Nat} {s : S} {xs ys : List V} (h : LeRs m s xs ys) : xs.length = ys.length ∧ ∀ (j : Nat) (c d : V), xs[j]? = some c → ys[j]? = some d → LeR m s c d := by
  induction h with
  | nil => exact ⟨rfl, fun j c d h => by simp at h⟩
  | cons h _ ih =>
    refine ⟨by simp [ih.1], fun j c d h1 h2 => ?_⟩
    cases j with
    | zero => simp at h1 h2; subst h1; subst h2; exact h
    | succ j => exact ih.2 j c d (by simpa using h1) (by simpa using h2)

theorem LeR.tup {m : Nat} {s : S} {xs ys : List V} (h : LeRs m s xs ys) : LeR m s (.tup xs) (.tup ys) := by
  intro Λ v hm hr hv
  obtain ⟨h1, h2⟩ := h.spec
  cases hv with
  | tup hs hv =>
    refine .tup (hs.trans h1) fun j u d hj hd => ?_
    have hlt : j < xs.length := by rw [h1]; exact (List.getElem?_eq_some_iff.1 hd).1
    exact h2 j xs[j] d (by simp [hlt]) hd Λ u hm hr (hv j u _ hj (by simp [hlt]))

theorem LeR.agg {m : Nat} {s : S} {xs ys : List V} (h : LeRs m s xs ys) : LeR m s (.agg xs) (.agg ys) := by
  intro Λ v hm hr hv
  obtain ⟨h1, h2⟩ := h.spec
  cases hv with
  | agg hs hv =>
    refine .agg (hs.trans h1) fun j u d hj hd => ?_
    have hlt : j < xs.length := by rw [h1]; exact (List.getElem?_eq_some_iff.1 hd).1
    exact h2 j xs[j] d (by simp [hlt]) hd Λ u hm hr (hv j u _ hj (by simp [hlt]))

section
variable {P : Program}

/-- one result variable read -/
def resM (tmps : Array Value) : ResultVar → Sem Value
  | .tmp t => pure (tmps.getD t undef)
  | .cell a t => do loadVar t (← asAddr (tmps.getD a undef))

theorem results_eq (fn : Func) (tmps : Array Value) : results fn tmps = (do let vs ← fn.results.mapM (resM tmps); pure (if h : vs.size = 1 then vs[0] else .tuple vs)) := by
  unfold results
  congr 2

theorem run_res {C : Ctx} {Λ : L} {st : St} {a : Act} (hr : Rel C Λ st a) {rv : ResultVar} {r : ARes} {x : V} (h1 : resR P rv = some r) (h2 : r.v st = some x) :
    ∃ v, (resM a.tmps rv).run P Λ.w = .ok v Λ.w ∧ RelV Λ v x := by
  cases rv with
  | tmp t => simp [resR] at h1; subst h1; simp [ARes.v] at h2; subst h2; exact ⟨_, rfl, hr.env t⟩
  | cell ad t =>
    simp only [resR] at h1
    split at h1
    · rename_i n d hn hu
      simp at h1; subst h1
      simp only [ARes.v] at h2
      split at h2
      · rename_i k o hl
        split at h2
        · rename_i cs hk
          have hx := hr.env ad
          rw [hl] at hx
          simp only [resM]
          generalize a.tmps.getD ad undef = u at hx ⊢
          cases hx with
          | @ptr b _ _ _ hb =>
            obtain ⟨arr, e, e1, e2, e3⟩ := hr.s.objCells hk hb
            split at h2
            · rename_i hag
              split at h2
              · rename_i hle
                simp at h2; subst h2
                have hvl : ((arr.toList.drop o).take n).length = n := by simp; omega
                have hcell : ∀ (j : Nat) (v : Value), ((arr.toList.drop o).take n)[j]? = some v → Λ.w.cell? ⟨b, o + j, none⟩ = some v := by
                  intro j v hj
                  rw [List.getElem?_take] at hj
                  split at hj
                  · rw [List.getElem?_drop] at hj; rw [cell_of_row Λ.w b _ arr e _ e1]; simpa using hj
                  · cases hj
                have := run_loadAt_agg (P := P) hn hag hvl hcell
                simp [Instr.loadAt, Instr.sureAddr] at this
                exact ⟨.agg ((arr.toList.drop o).take n).toArray, by simp [asAddr, this], RelV.subL (vs := arr.toList) (fun j v c a1 a2 => e3 j v c (by simpa using a1) a2) (by simpa using e2) o n⟩
              · cases h2
            · rename_i hag
              have hlt : o < cs.length := (List.getElem?_eq_some_iff.1 h2).1
              have hcell : Λ.w.cell? ⟨b, o, none⟩ = some (arr[o]'(by omega)) := by rw [cell_of_row Λ.w b o arr e _ e1]; simp [e2, hlt]
              have := run_loadAt_one (P := P) hu (by simpa using hag) hcell
              simp [Instr.loadAt, Instr.sureAddr] at this
              exact ⟨arr[o]'(by omega), by simp [asAddr, this], e3 o _ x (by simp) h2⟩
        · cases h2
      · cases h2
    · cases h1

theorem run_results {C : Ctx} {Λ : L} {st : St} {a : Act} (hr : Rel C Λ st a) {fn : Func} {rs : List ARes} {x : V} (h1 : fn.results.toList.mapM (resR P) = some rs) (h2 : ressV st rs = some x) :
    ∃ v, (results fn a.tmps).run P Λ.w = .ok v Λ.w ∧ RelV Λ v x := by
  have hmap : ∀ (l : List ResultVar) (rs : List ARes), l.mapM (resR P) = some rs → l.length = rs.length ∧ ∀ (j : Nat) (x : ResultVar) (y : ARes), l[j]? = some x → rs[j]? = some y → resR P x = some y := by
    intro l
    induction l with
    | nil => intro c h; simp at h; subst h; simp
    | cons d cs ih =>
      intro c h
      simp only [List.mapM_cons, Option.bind_eq_bind, Option.pure_def, Option.bind_eq_some_iff] at h
      obtain ⟨y, hy, c', hc', h⟩ := h
      simp at h; subst h
      obtain ⟨i1, i2⟩ := ih c' hc'
      refine ⟨by simp [i1], fun j e z h1 h2 => ?_⟩
      cases j with
      | zero => simp at h1 h2; subst h1; subst h2; exact hy
      | succ j => exact i2 j e z (by simpa using h1) (by simpa using h2)
  obtain ⟨k1, k2⟩ := hmap _ _ h1
  unfold ressV at h2
  split at h2
  · simp at h2; subst h2
    have : fn.results = #[] := by simpa using k1
    exact ⟨.tuple #[], by simp [results, this], .tup rfl (by simp)⟩
  · rename_i r
    have : ∃ x0, fn.results = #[x0] := by
      match hfn : fn.results.toList, k1 with
      | [x0], _ => exact ⟨x0, by apply Array.ext'; simpa using hfn⟩
    obtain ⟨x0, he⟩ := this
    have hr0 := k2 0 x0 r (by simp [he]) rfl
    obtain ⟨v, e1, e2⟩ := run_res hr hr0 h2
    refine ⟨v, ?_, e2⟩
    rw [results_eq]; simp [he, e1]
  · rename_i r q
    have : ∃ x0 x1, fn.results = #[x0, x1] := by
      match hfn : fn.results.toList, k1 with
      | [x0, x1], _ => exact ⟨x0, x1, by apply Array.ext'; simpa using hfn⟩
    obtain ⟨x0, x1, he⟩ := this
    split at h2
    · rename_i y0 y1 g0 g1
      simp at h2; subst h2
      obtain ⟨v0, a1, a2⟩ := run_res hr (k2 0 x0 r (by simp [he]) rfl) g0
      obtain ⟨v1, b1, b2⟩ := run_res hr (k2 1 x1 q (by simp [he]) rfl) g1
      refine ⟨.tuple #[v0, v1], ?_, .tup rfl fun j v c hv hc => ?_⟩
      · rw [results_eq]; simp [he, a1, b1]
      · match j, hv, hc with
        | 0, hv, hc => simp at hv hc; subst hv; subst hc; exact a2
        | 1, hv, hc => simp at hv hc; subst hv; subst hc; exact b2
    · cases h2
  · rename_i r q p
    have : ∃ x0 x1 x2, fn.results = #[x0, x1, x2] := by
      match hfn : fn.results.toList, k1 with
      | [x0, x1, x2], _ => exact ⟨x0, x1, x2, by apply Array.ext'; simpa using hfn⟩
    obtain ⟨x0, x1, x2, he⟩ := this
    split at h2
    · rename_i y0 y1 y2 g0 g1 g2
      simp at h2; subst h2
      obtain ⟨v0, a1, a2⟩ := run_res hr (k2 0 x0 r (by simp [he]) rfl) g0
      obtain ⟨v1, b1, b2⟩ := run_res hr (k2 1 x1 q (by simp [he]) rfl) g1
      obtain ⟨v2, c1, c2⟩ := run_res hr (k2 2 x2 p (by simp [he]) rfl) g2
      refine ⟨.tuple #[v0, v1, v2], ?_, .tup rfl fun j v c hv hc => ?_⟩
      · rw [results_eq]; simp [he, a1, b1, c1]
      · match j, hv, hc with
        | 0, hv, hc => simp at hv hc; subst hv; subst hc; exact a2
        | 1, hv, hc => simp at hv hc; subst hv; subst hc; exact b2
        | 2, hv, hc => simp at hv hc; subst hv; subst hc; exact c2
    · cases h2
  · cases h2

/-- how a store leaves -/
def LeSto (m : Nat) (s : S) (sto' : List (Nat × AObj)) : Prop := ∀ (Λ : L), m ≤ Λ.nxt → RelS Λ s → RelS (Λ.cut m m) ⟨sto', 0⟩

theorem LeSto.le {m : Nat} {s : S} {sto' : List (Nat × AObj)} (h : LeS m m s.sto sto') : LeSto m s sto' := fun _ hm hr => hr.weak (s' := ⟨sto', 0⟩) hm (Nat.le_refl _) h

def AObj.bd (m : Nat) : AObj → Bool
  | .cells cs => V.bds m cs
  | _ => true
def stoBd (m : Nat) : List (Nat × AObj) → Bool
  | [] => true
  | (k, o) :: r => decide (k < m) && o.bd m && stoBd m r
theorem stoBd_at {m : Nat} : ∀ {s : List (Nat × AObj)}, stoBd m s = true → ∀ k o, aget s k = some o → k < m ∧ o.bd m = true
  | [], _, k, o, h => by simp [aget] at h
  | (j, x) :: r, hb, k, o, h => by
    simp only [stoBd, Bool.and_eq_true, decide_eq_true_eq] at hb
    by_cases e : j = k
    · subst e; simp [aget] at h; subst h; exact ⟨hb.1.1, hb.1.2⟩
    · simp only [aget, e, if_false] at h; exact stoBd_at hb.2 k o h

theorem RelO.cut {Λ : L} {m m' k : Nat} {o : AObj} (hm : m ≤ m') (hk : k < m) (hb : o.bd m = true) (h : RelO Λ k o) : RelO (Λ.cut m m') k o := by
  cases o with
  | cells cs =>
    obtain ⟨b, arr, e, e1, e2, e3, e4⟩ := h
    exact ⟨b, arr, e, cut_obj e1 hk, e2, e3, fun j v c a1 a2 => (e4 j v c a1 a2).cut hm (V.bds_at (by simpa [AObj.bd] using hb) j c a2)⟩
  | map kag vag es =>
    obtain ⟨b, ents, clock, e1, e2, e3⟩ := h
    exact ⟨b, ents, clock, cut_obj e1 hk, e2, e3.keep fun _ _ h => h.cut⟩
  | arr n => unfold RelO at *; simp [L.cut, hk, h]

theorem LeSto.same {m : Nat} {s : S} {sto' : List (Nat × AObj)} (h : ∀ k o, aget sto' k = some o → aget s.sto k = some o ∧ k < m ∧ o.bd m = true) : LeSto m s sto' := by
  intro Λ hm hr
  refine ⟨fun k o hk => ?_, fun b b' k h1 h2 => hr.inj b b' k (cut_obj_inv h1).1 (cut_obj_inv h2).1, fun b hb => cut_fix (hr.new b hb), fun b k hb => ?_, fun k hk => by have hk' : m ≤ k := hk; simp [L.cut]; omega⟩
  · obtain ⟨h1, h2, h3⟩ := h k o hk
    exact ⟨h2, (hr.sto k o h1).2.cut (Nat.le_refl _) h2 h3⟩
  · rcases hb with hb | ⟨n, hb⟩
    · exact (cut_obj_inv hb).2
    · exact (cut_arr_inv hb).2

/-- what must hold where a function ends -/
def EndOk (s : S) (out : Out) (rs : List ARes) : AExit → St → Prop
  | .exit _, _ => False
  | _, st => ∃ r, ressV st rs = some r ∧ s.nxt + out.n ≤ st.s.nxt ∧ LeR (s.nxt + out.n) st.s r out.v ∧ LeSto (s.nxt + out.n) st.s (asets s.sto out.ob)

theorem fnInfo_spec {f : FuncId} {n : Nat} {ac : ACode} {rs : List ARes} (h : fnInfo P f = some (n, ac, rs)) : ∃ fn c, P.funcs[f]? = some fn ∧ fn.body = some c ∧ resC P c = some ac ∧ fn.results.toList.mapM (resR P) = some rs ∧ codeOk n c = true ∧ fn.ntmps = n ∧ HasB P f := by
  unfold fnInfo at h
  split at h
  · rename_i fn hfn
    split at h
    · rename_i c hc
      split at h
      · rename_i a r h1 h2
        split at h
        · rename_i hok
          simp at h
          obtain ⟨rfl, rfl, rfl⟩ := h
          simp only [Bool.and_eq_true, Bool.not_eq_true'] at hok
          refine ⟨fn, c, hfn, hc, h1, h2, hok.1, rfl, fun args w => ?_⟩
          simp only [callFunc]
          simp [program, Sem.run, hfn, hc]
          have := hok.2
          simp at this
          simp [this]
        · cases h
      · cases h
    · cases h
  · cases h

theorem FnOk.of_sat {f : FuncId} {n : Nat} {ac : ACode} {rs : List ARes} {vs : List V} {s : S} {out : Out} (hi : fnInfo P f = some (n, ac.bare, rs)) (hm : P.follows .mixedOrders = true) (hn : vs.length ≤ n)
    (h : Sat P n s.nxt ac { env := entryE 0 vs, s := s } (EndOk s out rs)) : FnOk P f vs s out := by
  obtain ⟨fn, c, h1, h2, h3, h4, h5, h6, h7⟩ := fnInfo_spec hi
  refine ⟨h7, fun Λ args hs hx hsz hargs => ?_⟩
  refine calls_of_wp h1 h2 ?_
  have hrel : Rel { P := P, n := n, Λ := Λ } Λ { env := entryE 0 vs, s := s } { tmps := args ++ Array.replicate (fn.ntmps - args.size) undef, defers := [] } := by
    refine ⟨Kp.refl _, by simp [h6]; omega, rfl, fun t => ?_, hs⟩
    simp only
    rw [look_entry, if_pos (Nat.zero_le _), Nat.sub_zero]
    cases hv : vs[t]? with
    | none => exact .top
    | some x =>
      have hlt : t < args.size := by rw [hsz]; exact (List.getElem?_eq_some_iff.1 hv).1
      have he : (args ++ Array.replicate (fn.ntmps - args.size) undef).getD t undef = args[t] := by
        rw [Array.getD_eq_getD_getElem?, Array.getElem?_append_left hlt]; simp [hlt]
      rw [he]
      exact hargs t args[t] x (by simp [hlt]) hv
  refine wp_mono (h c h3 h5 hm { P := P, n := n, Λ := Λ } Λ _ rfl rfl hx hrel hx) fun e a' w' hp => ?_
  obtain ⟨x, st', Λ', k1, k2, k3, k4, rfl⟩ := hp
  have fin : (∃ r, ressV st' rs = some r ∧ s.nxt + out.n ≤ st'.s.nxt ∧ LeR (s.nxt + out.n) st'.s r out.v ∧ LeSto (s.nxt + out.n) st'.s (asets s.sto out.ob)) →
      a'.defers = [] ∧ ∃ v, (results fn a'.tmps).run P Λ'.w = .ok v Λ'.w ∧ ∃ v' Λ'', Ending.returned v = .returned v' ∧ Λ''.w = Λ'.w ∧ Kp Λ Λ'' ∧ Λ''.nxt = s.nxt + out.n ∧ RelS Λ'' ⟨asets s.sto out.ob, 0⟩ ∧ RelV Λ'' v' out.v := by
    rintro ⟨r, e1, e2, e3, e4⟩
    obtain ⟨v, f1, f2⟩ := run_results k3 h4 e1
    refine ⟨k3.defers, v, f1, v, Λ'.cut (s.nxt + out.n) (s.nxt + out.n), rfl, rfl, k3.kp.cut (by simp; omega) (Nat.le_refl _), rfl, ?_, e3 Λ' v (by omega) k3.s f2⟩
    exact e4 Λ' (by omega) k3.s
  cases e with
  | normal => simp [exitOf] at k1; subst k1; exact fin k2
  | ret => simp [exitOf] at k1; subst k1; exact fin k2
  | exit id => simp [exitOf] at k1; subst k1; exact k2.elim
  | goto l => simp [exitOf] at k1
  | panic ch => simp [exitOf] at k1
  | outgrown => simp [exitOf] at k1

/-- objects and growing arrays out of sight -/
def L.hide (Λ : L) : L where
  lab := fun b => match Λ.lab b with
    | .obj _ => .fix (some 0)
    | .arr _ fr => .fix (some fr)
    | x => x
  fro := fun _ => 0
  nxt := 0
  w := Λ.w

theorem hide_lab (Λ : L) (b : Nat) : ∃ fr, Λ.hide.lab b = .fix fr := by
  simp only [L.hide]
  cases Λ.lab b with
  | fix fr => exact ⟨_, rfl⟩
  | obj k => exact ⟨_, rfl⟩
  | arr k n => exact ⟨_, rfl⟩

theorem hide_rd {Λ : L} {b o : Nat} : Rd Λ.hide.lab b o ↔ Rd Λ.lab b o := by
  unfold Rd
  simp only [L.hide]
  cases Λ.lab b with
  | fix fr => exact Iff.rfl
  | obj k => simp
  | arr k n => simp

theorem RepT.hide {Λ : L} {v : Value} {x : T} (h : RepT Λ.lab Λ.w v x) : RepT Λ.hide.lab Λ.hide.w v x := h.keep fun _ _ _ _ hr => ⟨hide_rd.2 hr, rfl⟩

theorem RelV.hide {Λ : L} {v : Value} {x : V} (h : RelV Λ v x) (hb : x.bd 0 = true) : RelV Λ.hide v x := by
  induction h with
  | t h => exact .t h.hide
  | nils => exact .nils
  | own _ _ _ _ _ => simp [V.bd] at hb
  | slc _ _ _ => simp [V.bd] at hb
  | agg hs _ ih => exact .agg hs fun j v c h1 h2 => ih j v c h1 h2 (V.bds_at (by simpa [V.bd] using hb) j c h2)
  | tup hs _ ih => exact .tup hs fun j v c h1 h2 => ih j v c h1 h2 (V.bds_at (by simpa [V.bd] using hb) j c h2)
  | ptr _ _ => simp [V.bd] at hb
  | mp _ _ => simp [V.bd] at hb
  | @fn f vs cs hs h =>
    refine .fn hs fun j v c h1 h2 => ?_
    simp only [V.bd, List.all_eq_true] at hb
    have := hb c (List.mem_of_getElem? h2)
    simp at this
  | gd _ h' ih => exact .gd (fun hc => ih hc (by simpa [V.bd] using hb)) h'
  | top => exact .top

theorem RelS.hide {Λ : L} {sto : List (Nat × AObj)} (h : RelS Λ ⟨sto, Λ.nxt⟩) : RelS Λ.hide ⟨[], 0⟩ := by
  refine ⟨by simp [aget], fun b b' k h1 => ?_, fun b hb => ?_, fun b k hb => ?_, fun _ _ => rfl⟩
  · obtain ⟨fr, e⟩ := hide_lab Λ b; rw [e] at h1; simp at h1
  · simp only [L.hide, h.new b hb]
  · obtain ⟨fr, e⟩ := hide_lab Λ b; rw [e] at hb; simp at hb

/-- the labels behind a call that was handed no objects -/
def L.back (Λ Λ' : L) : L where
  lab := fun b => if b < Λ.w.heap.size then Λ.lab b else Λ'.lab b
  fro := Λ.fro
  nxt := Λ.nxt
  w := Λ'.w

/-- A function that is handed no objects, called in any store. -/
theorem FnOk.pure {f : FuncId} {vs : List V} {x : V} {base : Nat} {s : List (Nat × AObj)} (h : FnOk P f vs ⟨[], 0⟩ { v := x }) (hb : V.bds 0 vs = true) (hx : x.bd 0 = true) : FnAt P f vs base s { v := x } := by
  refine ⟨h.1, by simp, fun Λ args hs _ _ hsz hargs => ?_⟩
  refine (h.2 Λ.hide args hs.hide rfl hsz fun j v y h1 h2 => (hargs j v y h1 h2).hide (V.bds_at hb j y h2)).mono fun e w' he => ?_
  obtain ⟨v, Λ', rfl, rfl, k1, k2, k3, k4⟩ := he
  simp only [asets, Nat.add_zero] at k2 k3
  have hnl : ∀ b, ∃ fr, Λ'.lab b = .fix fr := by
    intro b
    cases hl : Λ'.lab b with
    | fix fr => exact ⟨fr, rfl⟩
    | obj k => have := k3.bnd b k (.inl hl); omega
    | arr k n => have := k3.bnd b k (.inr ⟨n, hl⟩); omega
  have hold : ∀ b, b < Λ.w.heap.size → Λ'.lab b = Λ.hide.lab b ∧ Λ'.w.heap[b]? = Λ.w.heap[b]? := by
    intro b hb
    obtain ⟨fr, e⟩ := hide_lab Λ b
    obtain ⟨e1, e2⟩ := k1.fr.fix b hb fr e
    exact ⟨by rw [e1, e], e2⟩
  have hlt : ∀ {b : Nat}, b < Λ.w.heap.size → (Λ.back Λ').lab b = Λ.lab b := fun h => by simp [L.back, h]
  have hkp : Kp Λ (Λ.back Λ') := by
    refine ⟨⟨k1.fr.os, k1.fr.tape, k1.fr.output, k1.fr.size, fun b hb fr hl => ⟨by rw [hlt hb]; exact hl, (hold b hb).2⟩, fun b hb k fr hl o ho => ⟨by simp only [Rd, hlt hb, hl]; exact ho, cell?_heap (hold b hb).2⟩⟩, Nat.le_refl _, fun b k _ hl => ?_, fun b k n _ hb hl _ => ⟨by rw [hlt hb]; exact hl, (hold b hb).2⟩, fun _ _ => Nat.le_refl _⟩
    have hb : b < Λ.w.heap.size := by
      rcases Nat.lt_or_ge b Λ.w.heap.size with h | h
      · exact h
      · rw [hs.new b h] at hl; simp at hl
    rw [hlt hb]; exact hl
  have hinv : ∀ b, (∃ k, (Λ.back Λ').lab b = .obj k) ∨ (∃ k n, (Λ.back Λ').lab b = .arr k n) → (Λ.back Λ').lab b = Λ.lab b := by
    intro b hb
    rcases Nat.lt_or_ge b Λ.w.heap.size with h | h
    · exact hlt h
    · exfalso
      obtain ⟨fr, e⟩ := hnl b
      have : (Λ.back Λ').lab b = .fix fr := by simp [L.back, Nat.not_lt.2 h, e]
      rcases hb with ⟨k, hb⟩ | ⟨k, n, hb⟩ <;> rw [this] at hb <;> simp at hb
  refine ⟨v, Λ.back Λ', rfl, rfl, hkp, rfl, ?_, ?_, fun k hk _ _ => ⟨fun b hb => ?_, fun b n hb => ?_, hk.fro⟩⟩
  · refine hs.step hkp rfl (fun k o ho => .inl ⟨ho, fun b hb => ?_, rfl⟩) (fun b b' k h1 h2 => ?_) (fun b hb => ?_) (fun b k hb => ?_) hs.frz
    · have hb' : b < Λ.w.heap.size := by
        rcases Nat.lt_or_ge b Λ.w.heap.size with h | h
        · exact h
        · rw [hs.new b h] at hb; simp at hb
      exact (hold b hb').2
    · rw [hinv b (.inl ⟨k, h1⟩)] at h1; rw [hinv b' (.inl ⟨k, h2⟩)] at h2; exact hs.inj b b' k h1 h2
    · have hsz : Λ.w.heap.size ≤ b := Nat.le_trans k1.fr.size hb
      have : (Λ.back Λ').lab b = Λ'.lab b := by simp [L.back, Nat.not_lt.2 hsz]
      rw [this]; exact k3.new b hb
    · rcases hb with hb | ⟨n, hb⟩
      · rw [hinv b (.inl ⟨k, hb⟩)] at hb; exact hs.bnd b k (.inl hb)
      · rw [hinv b (.inr ⟨k, n, hb⟩)] at hb; exact hs.bnd b k (.inr ⟨n, hb⟩)
  · have hrep : ∀ {u : Value} {y : T}, RepT Λ'.lab Λ'.w u y → RepT (Λ.back Λ').lab (Λ.back Λ').w u y := by
      intro u y hy
      refine hy.keep fun b o _ _ hr => ⟨?_, rfl⟩
      rcases Nat.lt_or_ge b Λ.w.heap.size with h | h
      · unfold Rd; rw [hlt h]
        have : Rd Λ'.lab b o := hr
        unfold Rd at this; rw [(hold b h).1] at this
        exact hide_rd.1 this
      · have e : (Λ.back Λ').lab b = Λ'.lab b := by simp [L.back, Nat.not_lt.2 h]
        unfold Rd; rw [e]; exact hr
    clear hb h
    simp only at k4 ⊢
    generalize x = y at k4 hx
    induction k4 with
    | t h => exact .t (hrep h)
    | nils => exact .nils
    | own _ _ _ _ _ => simp [V.bd] at hx
    | slc _ _ _ => simp [V.bd] at hx
    | agg hs _ ih => exact .agg hs fun j v c h1 h2 => ih j v c h1 h2 (V.bds_at (by simpa [V.bd] using hx) j c h2)
    | tup hs _ ih => exact .tup hs fun j v c h1 h2 => ih j v c h1 h2 (V.bds_at (by simpa [V.bd] using hx) j c h2)
    | ptr _ _ => simp [V.bd] at hx
    | mp _ _ => simp [V.bd] at hx
    | @fn f vs cs hs h =>
      refine .fn hs fun j v c h1 h2 => ?_
      simp only [V.bd, List.all_eq_true] at hx
      have := hx c (List.mem_of_getElem? h2)
      simp at this
    | gd _ h' ih => exact .gd (fun hc => ih hc (by simpa [V.bd] using hx)) h'
    | top => exact .top
  · rw [hinv b (.inl ⟨k, hb⟩)] at hb; exact hk.obj b hb
  · rw [hinv b (.inr ⟨k, n, hb⟩)] at hb; exact hk.arr b n hb

/-- names from m on out of sight -/
def L.hideFrom (Λ : L) (m : Nat) : L where
  lab := fun b => match Λ.lab b with
    | .obj k => if k < m then .obj k else .fix (some 0)
    | .arr k fr => if k < m then .arr k fr else .fix (some fr)
    | x => x
  fro := fun k => if k < m then Λ.fro k else 0
  nxt := m
  w := Λ.w

/-- is a block of a name from m on? -/
def L.high (Λ : L) (m b : Nat) : Bool :=
  match Λ.lab b with
  | .obj k => decide (m ≤ k)
  | .arr k _ => decide (m ≤ k)
  | _ => false

theorem hf_low {Λ : L} {m b : Nat} (h : Λ.high m b = false) : (Λ.hideFrom m).lab b = Λ.lab b := by
  unfold L.high at h
  simp only [L.hideFrom]
  cases hl : Λ.lab b with
  | fix fr => rfl
  | obj k => rw [hl] at h; simp at h; simp [h]
  | arr k fr => rw [hl] at h; simp at h; simp [h]
theorem hf_high {Λ : L} {m b : Nat} (h : Λ.high m b = true) : ∃ fr, (Λ.hideFrom m).lab b = .fix (some fr) ∧ ((∃ k, Λ.lab b = .obj k ∧ m ≤ k ∧ fr = 0) ∨ ∃ k, Λ.lab b = .arr k fr ∧ m ≤ k) := by
  unfold L.high at h
  simp only [L.hideFrom]
  cases hl : Λ.lab b with
  | fix fr => rw [hl] at h; simp at h
  | obj k => rw [hl] at h; simp at h; exact ⟨0, by simp; omega, .inl ⟨k, rfl, h, rfl⟩⟩
  | arr k fr => rw [hl] at h; simp at h; exact ⟨fr, by simp; omega, .inr ⟨k, rfl, h⟩⟩
theorem hf_rd {Λ : L} {m b o : Nat} : Rd (Λ.hideFrom m).lab b o ↔ Rd Λ.lab b o := by
  cases hh : Λ.high m b with
  | false => unfold Rd; rw [hf_low hh]
  | true =>
    obtain ⟨fr, h1, h2⟩ := hf_high hh
    unfold Rd
    rcases h2 with ⟨k, e, _, rfl⟩ | ⟨k, e, _⟩ <;> rw [h1, e] <;> simp
theorem hf_obj {Λ : L} {m b k : Nat} (h : Λ.lab b = .obj k) (hk : k < m) : (Λ.hideFrom m).lab b = .obj k := by simp [L.hideFrom, h, hk]
theorem hf_arr {Λ : L} {m b k n : Nat} (h : Λ.lab b = .arr k n) (hk : k < m) : (Λ.hideFrom m).lab b = .arr k n := by simp [L.hideFrom, h, hk]
theorem hf_obj_inv {Λ : L} {m b k : Nat} (h : (Λ.hideFrom m).lab b = .obj k) : Λ.lab b = .obj k ∧ k < m := by
  simp only [L.hideFrom] at h
  cases hl : Λ.lab b with
  | fix fr => simp [hl] at h
  | obj j => simp only [hl] at h; split at h <;> simp_all
  | arr j n => simp only [hl] at h; split at h <;> simp_all
theorem hf_arr_inv {Λ : L} {m b k n : Nat} (h : (Λ.hideFrom m).lab b = .arr k n) : Λ.lab b = .arr k n ∧ k < m := by
  simp only [L.hideFrom] at h
  cases hl : Λ.lab b with
  | fix fr => simp [hl] at h
  | obj j => simp only [hl] at h; split at h <;> simp_all
  | arr j n => simp only [hl] at h; split at h <;> simp_all

theorem RepT.hf {Λ : L} {m : Nat} {v : Value} {x : T} (h : RepT Λ.lab Λ.w v x) : RepT (Λ.hideFrom m).lab (Λ.hideFrom m).w v x := h.keep fun _ _ _ _ hr => ⟨hf_rd.2 hr, rfl⟩

theorem RelV.hf {Λ : L} {m : Nat} {v : Value} {x : V} (h : RelV Λ v x) (hb : x.bd m = true) : RelV (Λ.hideFrom m) v x := by
  induction h with
  | t h => exact .t h.hf
  | nils => exact .nils
  | @own v k sz xs h hsz hl hn ho =>
    have hk : k < m := by simpa [V.bd] using hb
    have hf : (Λ.hideFrom m).fro k = Λ.fro k := by simp [L.hideFrom, hk]
    refine .own h.hf hsz hk (by rw [hf]; exact hn) fun he => ?_
    rcases ho (by rw [← hf]; exact he) with ho | ⟨b, cap, arr, e, hv, hb', hh, hc, hn'⟩
    · exact .inl ho
    · exact .inr ⟨b, cap, arr, e, hv, hf_arr hb' hk, hh, hc, hn'⟩
  | @slc b k off len cap sz hl hc h => have hk : k < m := by simpa [V.bd] using hb
                                       exact .slc hk hc (hf_obj h hk)
  | agg hs _ ih => exact .agg hs fun j v c h1 h2 => ih j v c h1 h2 (V.bds_at (by simpa [V.bd] using hb) j c h2)
  | tup hs _ ih => exact .tup hs fun j v c h1 h2 => ih j v c h1 h2 (V.bds_at (by simpa [V.bd] using hb) j c h2)
  | @ptr b k off hl h => have hk : k < m := by simpa [V.bd] using hb
                         exact .ptr hk (hf_obj h hk)
  | @mp b k hl h => have hk : k < m := by simpa [V.bd] using hb
                    exact .mp hk (hf_obj h hk)
  | fn hs h =>
    refine .fn hs fun j v c h1 h2 => ?_
    obtain ⟨b, e1, e2, e3⟩ := h j v c h1 h2
    have hk : c.1 < m := by
      simp only [V.bd, List.all_eq_true, decide_eq_true_eq] at hb
      exact hb c (List.mem_of_getElem? h2)
    exact ⟨b, e1, hf_obj e2 hk, hk⟩
  | gd _ h' ih => exact .gd (fun hc => ih hc (by simpa [V.bd] using hb)) h'
  | top => exact .top

theorem RelS.hf {Λ : L} {m : Nat} {sto : List (Nat × AObj)} (h : RelS Λ ⟨sto, Λ.nxt⟩) (hs : stoBd m sto = true) : RelS (Λ.hideFrom m) ⟨sto, m⟩ := by
  refine ⟨fun k o hk => ?_, fun b b' k h1 h2 => h.inj b b' k (hf_obj_inv h1).1 (hf_obj_inv h2).1, fun b hb => ?_, fun b k hb => ?_, fun k hk => ?_⟩
  · obtain ⟨h1, h2⟩ := stoBd_at hs k o hk
    refine ⟨h1, ?_⟩
    have hr := (h.sto k o hk).2
    cases o with
    | cells cs =>
      obtain ⟨b, arr, e, e1, e2, e3, e4⟩ := hr
      exact ⟨b, arr, e, hf_obj e1 h1, e2, e3, fun j v c a1 a2 => (e4 j v c a1 a2).hf (V.bds_at (by simpa [AObj.bd] using h2) j c a2)⟩
    | map kag vag es =>
      obtain ⟨b, ents, clock, e1, e2, e3⟩ := hr
      exact ⟨b, ents, clock, hf_obj e1 h1, e2, e3.keep fun _ _ h => h.hf⟩
    | arr n => unfold RelO at *; simp [L.hideFrom, h1, hr]
  · simp only [L.hideFrom, h.new b hb]
  · rcases hb with hb | ⟨n, hb⟩
    · exact (hf_obj_inv hb).2
    · exact (hf_arr_inv hb).2
  · have hk' : m ≤ k := hk
    simp [L.hideFrom]; omega

end
end Go.GB
