/-
  YtkhekeacdnhkpaaP7: lemmas of this proof (part 7). No conditions.
-/
import Derived.Test.YtkhekeacdnhkpaaP6
import Derived.JoinedCond
import Derived.Deep.CondSized

/-
  GbBk: what a law is handed, with its bulk: values and letters, each counted each time it is reached.
-/
namespace Go.GB
open Go.RowKit Go.WideShapes Go.ChangeShapes

mutual
def T.bulk : T → Nat
  | .str s => s.length + 1
  | .lst xs => bulkLL xs + 1
  | .bool _ => 1
  | .int _ _ => 1
  | .ptr _ => 1
  | .fn _ => 1
  | .nilp => 1
  | .nilm => 1
  | .nilf => 1
def bulkLL : List (List T) → Nat
  | [] => 0
  | c :: r => bulkL c + bulkLL r
def bulkL : List T → Nat
  | [] => 0
  | x :: r => x.bulk + bulkL r
end
theorem bulkL_append : ∀ (a b : List T), bulkL (a ++ b) = bulkL a + bulkL b
  | [], b => by simp [bulkL]
  | x :: r, b => by simp only [List.cons_append, bulkL, bulkL_append r b]; omega

/-- a measure of readings that counts values and letters -/
structure Bulk {H : Type} (B : DataW H → Nat) : Prop where
  lit : ∀ l, 1 ≤ B (.lit l)
  str : ∀ bs, bs.length + 1 ≤ B (.lit (.string bs))
  nil : 1 ≤ B .nil
  slice : ∀ e s, (e.map B).sum + 1 ≤ B (.slice e s)
  agg : ∀ ps, (ps.map B).sum ≤ B (.agg ps)

theorem bulkLL_le {H : Type} {B : DataW H → Nat} : ∀ (xs : List (List T)) (es : List (DataW H)), xs.length = es.length → (∀ (i : Nat) c e, xs[i]? = some c → es[i]? = some e → bulkL c ≤ B e) → bulkLL xs ≤ (es.map B).sum
  | [], [], _, _ => by simp [bulkLL]
  | [], _ :: _, h, _ => by simp at h
  | _ :: _, [], h, _ => by simp at h
  | c :: xs, e :: es, h, hb => by
    have h1 := hb 0 c e rfl rfl
    have h2 := bulkLL_le xs es (by simpa using h) (fun i c e a b => hb (i + 1) c e (by simpa using a) (by simpa using b))
    simp only [bulkLL, List.map_cons, List.sum_cons]; omega

theorem pieces2 {P : Program} {w : World} {n : Nat} {cs : List Value} : ∀ (l : List (Nat × TypeId)) (bs : List Nat) (off tot : Nat), consec P off l = some tot → tot ≤ cs.length → l.length = bs.length → (∀ (j : Nat) p nb, l[j]? = some p → bs[j]? = some nb → ∃ ts, RepL w ((cs.drop p.1).take (P.cellsOf p.2)) ts ∧ WT P n p.2 ts ∧ bulkL ts ≤ nb) →
    off ≤ tot ∧ ∃ ts : List T, ts.length = tot - off ∧ (∀ (j : Nat) (v : Value) (x : T), cs[off + j]? = some v → ts[j]? = some x → RepT allFix w v x) ∧ (∀ p ∈ l, off ≤ p.1 ∧ WT P n p.2 ((ts.drop (p.1 - off)).take (P.cellsOf p.2))) ∧ bulkL ts ≤ bs.sum
  | [], bs, off, tot, hc, _, _, _ => by simp [consec] at hc; subst hc; exact ⟨Nat.le_refl _, [], by simp, by simp, by simp, by simp [bulkL]⟩
  | _ :: _, [], _, _, _, _, h, _ => by simp at h
  | (o, t) :: r, nb :: bs, off, tot, hc, hl, hlen, hp => by
    simp only [consec] at hc
    split at hc
    · rename_i e; subst e
      obtain ⟨h1, ts, h2, h3, h4, h5⟩ := pieces2 r bs (o + P.cellsOf t) tot hc hl (by simpa using hlen) (fun j p nb a b => hp (j + 1) p nb (by simpa using a) (by simpa using b))
      obtain ⟨us, k1, k2, k3⟩ := hp 0 (o, t) nb rfl rfl
      have hul : us.length = P.cellsOf t := by rw [← k1.1]; simp; omega
      refine ⟨by omega, us ++ ts, by simp [hul, h2]; omega, fun j v x hv hx => ?_, fun p hpm => ?_, by rw [bulkL_append]; simp only [List.sum_cons]; omega⟩
      · by_cases hj : j < us.length
        · rw [List.getElem?_append_left hj] at hx
          refine k1.2 j v x ?_ hx
          simp only
          rw [List.getElem?_take, if_pos (by omega), List.getElem?_drop]; exact hv
        · rw [List.getElem?_append_right (by omega)] at hx
          refine h3 (j - us.length) v x ?_ hx
          have : o + P.cellsOf t + (j - us.length) = o + j := by omega
          rw [this]; exact hv
      · rcases List.mem_cons.1 hpm with e | e
        · subst e
          refine ⟨Nat.le_refl _, ?_⟩
          simp only [Nat.sub_self, List.drop_zero]
          rw [List.take_append_of_le_length (by omega), List.take_of_length_le (by omega)]
          exact k2
        · obtain ⟨g1, g2⟩ := h4 p e
          refine ⟨by omega, ?_⟩
          have : p.1 - o = us.length + (p.1 - (o + P.cellsOf t)) := by omega
          rw [this, List.drop_append, List.drop_eq_nil_of_le (by omega)]
          simpa using g2
    · cases hc

section
variable {H : Type} {enc : TypeId × Value → H} {P : Program} {w : World} {sp : Nat → Bool} {held : Bool} {S : List TypeId} {B : DataW H → Nat}

theorem trod_repB (hB : Bulk B) (hp : plainT P S = true) : ∀ (n : Nat) (t : TypeId) (cs : List Value) (d : DataW H) (ps : List MemPlace), t ∈ S → DataW.trod enc P w 0 sp held n t cs = some (d, ps) → (d.weights P t).all (· ≤ reachBytes) = true → ∃ ts, RepL w cs ts ∧ WT P n t ts ∧ bulkL ts ≤ B d
  | 0, t, cs, d, ps, _, h, _ => by simp [DataW.trod] at h
  | n + 1, t, cs, d, ps, ht, h, hwt => by
    have hpt := List.all_eq_true.1 hp t ht
    simp only [WT]
    cases hu : P.underlying t with
    | none => rw [hu] at hpt; simp at hpt
    | some td =>
      rw [hu] at hpt
      cases td with
      | bool =>
        rcases cs with _ | ⟨v, _ | ⟨v2, r⟩⟩ <;> try (simp [DataW.trod, hu] at h; done)
        cases v <;> simp [DataW.trod, hu] at h
        rename_i b
        refine ⟨[.bool b], RepL.one (.bool b), ⟨b, rfl⟩, ?_⟩
        rw [← h.1]; simpa [bulkL, T.bulk] using hB.lit _
      | int k =>
        rcases cs with _ | ⟨v, _ | ⟨v2, r⟩⟩ <;> try (simp [DataW.trod, hu] at h; done)
        cases v <;> simp [DataW.trod, hu] at h
        rename_i k' x
        obtain ⟨⟨rfl, h2⟩, hd, _⟩ := h
        refine ⟨[.int k' x], RepL.one (.int _ _), ⟨x, rfl, h2⟩, ?_⟩
        rw [← hd]; simpa [bulkL, T.bulk] using hB.lit _
      | string =>
        rcases cs with _ | ⟨v, _ | ⟨v2, r⟩⟩ <;> try (simp [DataW.trod, hu] at h; done)
        cases v <;> simp [DataW.trod, hu] at h
        rename_i s
        rw [← h.2.1] at hwt
        refine ⟨[.str s.data.toList], RepL.one (.str _), ⟨s.data.toList, rfl, by simpa [DataW.weights] using hwt⟩, ?_⟩
        have := hB.str s.data.toList
        rw [← h.2.1]
        simp only [bulkL, T.bulk]; omega
      | slice e =>
        simp only [Bool.and_eq_true, decide_eq_true_eq] at hpt
        have he : e ∈ S := by simpa using hpt.1
        rcases cs with _ | ⟨v, _ | ⟨v2, r⟩⟩ <;> try (simp [DataW.trod, hu] at h; done)
        cases v <;> try (simp [DataW.trod, hu] at h; done)
        rename_i a len cap
        cases a with
        | none =>
          have h0 : len = 0 ∧ cap = 0 := by
            cases len <;> cases cap <;> simp_all [DataW.trod]
          obtain ⟨rfl, rfl⟩ := h0
          have hd : DataW.nil = d := by
            simp only [DataW.trod, hu] at h
            simp at h; exact h.1
          refine ⟨[.lst []], RepL.one .nil, ⟨[], rfl, by simp, by simp, by simp⟩, ?_⟩
          rw [← hd]
          simpa [bulkL, bulkLL, T.bulk] using hB.nil
        | some a =>
          simp only [DataW.trod, hu] at h
          split at h
          · rename_i hcond
            simp only [Option.bind_eq_some_iff] at h
            obtain ⟨elems, hel, hrest⟩ := h
            obtain ⟨hl, hat⟩ := mapM_at hel
            simp at hl
            rw [Option.map_eq_some_iff] at hrest
            obtain ⟨rest, _, hde⟩ := hrest
            simp only [Prod.mk.injEq] at hde
            rw [← hde.1] at hwt
            simp only [DataW.weights, hu, List.all_cons, List.all_append, Bool.and_eq_true, decide_eq_true_eq, List.length_map] at hwt
            have hreach : len * P.bytesOf e ≤ reachBytes := by
              rw [hl]
              exact Nat.le_trans (Nat.mul_le_mul_right _ (Nat.le_add_right _ _)) hwt.1
            have hone : ∀ i, i < len → ∃ q : List Value × List T, w.cells? 0 (a.add (i * P.cellsOf e)) (P.cellsOf e) = some q.1 ∧ RepL w q.1 q.2 ∧ WT P n e q.2 ∧ ∀ y, elems[i]? = some y → bulkL q.2 ≤ B y.1 := by
              intro i hi
              obtain ⟨y, hye, hy⟩ := hat i i (by simp [hi])
              simp only [Option.bind_eq_some_iff] at hy
              obtain ⟨c, hc, hy⟩ := hy
              obtain ⟨d', ps'⟩ := y
              obtain ⟨ts, k1, k2, k3⟩ := trod_repB hB hp n e c d' ps' he hy (weightsAll_of _ hwt.2.1 _ (List.mem_map.2 ⟨(d', ps'), List.mem_of_getElem? hye, rfl⟩))
              exact ⟨(c, ts), hc, k1, k2, fun y h => by rw [hye] at h; simp at h; subst h; exact k3⟩
            obtain ⟨qs, hql, hq⟩ := choose_list len hone
            have hsz : ∀ (i : Nat) (q : List Value × List T), qs[i]? = some q → q.1.length = P.cellsOf e ∧ q.2.length = P.cellsOf e := by
              intro i q hi
              obtain ⟨h1, h2, _⟩ := hq i q hi
              have := (cells?_at h1).1
              exact ⟨this, by rw [← h2.1]; exact this⟩
            -- the address has no spot, where anything is read
            have hspot : 0 < len → a.spot = none := by
              intro h0
              have hq0 : qs[0]? = some (qs[0]'(by omega)) := by simp
              obtain ⟨h1, _, _⟩ := hq 0 _ hq0
              obtain ⟨e1, e2⟩ := cells?_at h1
              have hlt : 0 < (qs[0]'(by omega)).1.length := by rw [(hsz 0 _ hq0).1]; exact hpt.2
              have := spot_none (e2 0 _ (List.getElem?_eq_getElem hlt))
              simpa [Addr.add] using this
            have hadd : ∀ m, 0 < len → a.add m = ⟨a.block, a.off + m, none⟩ := by
              intro m h0
              have hs := hspot h0
              obtain ⟨b, o, s⟩ := a
              simp at hs; subst hs
              exact add_mk b o m
            refine ⟨[.lst (qs.map (·.2))], RepL.one ?_, ⟨qs.map (·.2), rfl, by simpa [hql] using hreach, by simp [hql]; omega, fun c hc => ?_⟩, ?_⟩
            · have hlen : len = (qs.map (·.2)).length := by simp [hql]
              rw [hlen]
              refine .lst (some a) cap (P.cellsOf e) (qs.map (·.2)) a.block a.off (fun i j => ((qs.map (·.1)).getD i []).getD j undef) (by rw [← hlen]; exact hcond.2.1) ?_ ?_ ?_ ?_ ?_
              · intro i c hc
                rw [List.getElem?_map, Option.map_eq_some_iff] at hc
                obtain ⟨q, h1, rfl⟩ := hc
                exact (hsz i q h1).2
              · intro i j c x hc hx
                have h0 : 0 < len := by have := (List.getElem?_eq_some_iff.1 hc).1; simp [hql] at this; omega
                have hs := hspot h0
                obtain ⟨b, o, s⟩ := a
                simp at hs; subst hs; rfl
              · intro i j c x hc hx; trivial
              · intro i j c x hc hx
                rw [List.getElem?_map, Option.map_eq_some_iff] at hc
                obtain ⟨q, h1, rfl⟩ := hc
                have h0 : 0 < len := by have := (List.getElem?_eq_some_iff.1 h1).1; omega
                obtain ⟨g1, g2, _⟩ := hq i q h1
                obtain ⟨e1, e2⟩ := cells?_at g1
                have hj : j < q.1.length := by rw [g2.1]; exact (List.getElem?_eq_some_iff.1 hx).1
                have := e2 j _ (List.getElem?_eq_getElem hj)
                rw [hadd _ h0] at this
                rw [add_mk] at this
                rw [this]
                simp [h1, hj]
              · intro i j c x hc hx
                rw [List.getElem?_map, Option.map_eq_some_iff] at hc
                obtain ⟨q, h1, rfl⟩ := hc
                obtain ⟨g1, g2, _⟩ := hq i q h1
                have hj : j < q.1.length := by rw [g2.1]; exact (List.getElem?_eq_some_iff.1 hx).1
                have := g2.2 j _ x (List.getElem?_eq_getElem hj) hx
                simpa [h1, hj] using this
            · rw [List.mem_map] at hc
              obtain ⟨q, h1, rfl⟩ := hc
              obtain ⟨i, hi⟩ := List.mem_iff_getElem?.1 h1
              exact (hq i q hi).2.2.1
            · rw [← hde.1]
              have h1 := hB.slice (elems.map (·.1)) (rest.map (·.1))
              have h2 := bulkLL_le (B := B) (qs.map (·.2)) (elems.map (·.1)) (by simp [hql, hl]) (fun i c e a b => by
                rw [List.getElem?_map, Option.map_eq_some_iff] at a b
                obtain ⟨q, a1, rfl⟩ := a
                obtain ⟨y, b1, rfl⟩ := b
                exact (hq i q a1).2.2.2 y b1)
              simp only [bulkL, T.bulk]; omega
          · cases h
      | struct fs =>
        simp only [Bool.and_eq_true, List.all_eq_true, beq_iff_eq] at hpt
        have hh : cs.length = P.cellsOf t ∧ ∃ xs, (fs.toList.mapM fun f => DataW.trod enc P w 0 sp held n f.type ((cs.drop f.offset).take (P.cellsOf f.type))) = some xs ∧ d = .agg (xs.map (·.1)) := by
          have h' := h
          simp only [DataW.trod, hu] at h'
          split at h'
          · rename_i hc
            simp only [Option.map_eq_some_iff] at h'
            obtain ⟨xs, hxs, hd⟩ := h'
            exact ⟨hc, xs, hxs, by simp only [Prod.mk.injEq] at hd; exact hd.1.symm⟩
          · cases h'
        obtain ⟨hlen, xs, hxs, rfl⟩ := hh
        obtain ⟨hl, hat⟩ := mapM_at hxs
        simp only [DataW.weights, hu] at hwt
        obtain ⟨_, ts, g1, g2, g3, g4⟩ := pieces2 (n := n) (w := w) (cs := cs) _ ((xs.map (·.1)).map B) 0 _ hpt.2 (by omega) (by simp [hl]) (fun j p nb hpm hnb => by
          rw [List.getElem?_map, Option.map_eq_some_iff] at hpm
          obtain ⟨f, hj, rfl⟩ := hpm
          have hf := List.mem_of_getElem? hj
          obtain ⟨y, hye, hy⟩ := hat j f hj
          obtain ⟨d', ps'⟩ := y
          rw [List.getElem?_map, List.getElem?_map, hye] at hnb
          simp at hnb; subst hnb
          exact trod_repB hB hp n f.type _ d' ps' (by simpa using hpt.1 f hf) hy (weightsEach_of _ _ hwt j f.type d' (by simp [hj]) (by simp [hye])))
        refine ⟨ts, ⟨by omega, fun j v x hv hx => g2 j v x (by simpa using hv) hx⟩, ⟨by omega, fun f hf => ?_⟩, Nat.le_trans g4 (hB.agg _)⟩
        have := (g3 (f.offset, f.type) (List.mem_map.2 ⟨f, hf, rfl⟩)).2
        simpa using this
      | array m e =>
        simp only [Bool.and_eq_true, beq_iff_eq] at hpt
        have hh : cs.length = P.cellsOf t ∧ ∃ xs, ((List.range m).mapM fun i => DataW.trod enc P w 0 sp held n e ((cs.drop (i * P.cellsOf e)).take (P.cellsOf e))) = some xs ∧ d = .agg (xs.map (·.1)) := by
          have h' := h
          simp only [DataW.trod, hu] at h'
          split at h'
          · rename_i hc
            simp only [Option.map_eq_some_iff] at h'
            obtain ⟨xs, hxs, hd⟩ := h'
            exact ⟨hc, xs, hxs, by simp only [Prod.mk.injEq] at hd; exact hd.1.symm⟩
          · cases h'
        obtain ⟨hlen, xs, hxs, rfl⟩ := hh
        obtain ⟨hl, hat⟩ := mapM_at hxs
        simp only [DataW.weights, hu] at hwt
        obtain ⟨_, ts, g1, g2, g3, g4⟩ := pieces2 (n := n) (w := w) (cs := cs) _ ((xs.map (·.1)).map B) 0 _ hpt.2 (by omega) (by simp [← hl]) (fun j p nb hpm hnb => by
          rw [List.getElem?_map, Option.map_eq_some_iff] at hpm
          obtain ⟨i, hj, rfl⟩ := hpm
          obtain ⟨y, hye, hy⟩ := hat j i hj
          obtain ⟨d', ps'⟩ := y
          rw [List.getElem?_map, List.getElem?_map, hye] at hnb
          simp at hnb; subst hnb
          exact trod_repB hB hp n e _ d' ps' (by simpa using hpt.1) hy (weightsAll_of _ hwt _ (List.mem_map.2 ⟨(d', ps'), List.mem_of_getElem? hye, rfl⟩)))
        refine ⟨ts, ⟨by omega, fun j v x hv hx => g2 j v x (by simpa using hv) hx⟩, ⟨by omega, fun i hi => ?_⟩, Nat.le_trans g4 (hB.agg _)⟩
        have := (g3 (i * P.cellsOf e, e) (List.mem_map.2 ⟨i, List.mem_range.2 hi, rfl⟩)).2
        simpa using this
      | _ => simp at hpt

def vbs : List V → Nat
  | [] => 0
  | .t x :: r => x.bulk + vbs r
  | _ :: r => vbs r
def vb : V → Nat
  | .t x => x.bulk
  | .agg cs => vbs cs
  | _ => 0
theorem vbs_map : ∀ (ts : List T), vbs (ts.map V.t) = bulkL ts
  | [] => rfl
  | x :: r => by simp only [List.map_cons, vbs, bulkL, vbs_map r]
theorem arg_relB (hB : Bulk B) (hp : plainT P S = true) {base : Nat} {t : TypeId} {v : Value} {d : DataW H} {ps : List MemPlace} (ht : t ∈ S) (hok : Value.okWide P w .any base t v) (h : DataW.Trod enc P w 0 sp held t v d ps) (hwt : (d.weights P t).all (· ≤ reachBytes) = true) :
    ∃ n ts, WT P n t ts ∧ RelV (L.all w) v (argV P t ts) ∧ vb (argV P t ts) ≤ B d := by
  obtain ⟨n, hn⟩ := h
  obtain ⟨ts, h1, h2, hbk⟩ := trod_repB hB hp n t _ d ps ht hn hwt
  refine ⟨n, ts, h2, ?_⟩
  have hpt := List.all_eq_true.1 hp t ht
  unfold argV
  by_cases hag : isAggT P t = true
  · simp only [hag, if_true]
    have : ∃ cs, v = .agg cs := by
      unfold isAggT at hag
      unfold Value.okWide at hok
      cases hu : P.underlying t with
      | none => rw [hu] at hag; simp at hag
      | some td => rw [hu] at hag hok; cases td <;> simp at hag <;> exact ⟨_, hok.choose_spec.1⟩
    obtain ⟨cs, rfl⟩ := this
    refine ⟨.agg (by simpa [Value.cells] using h1.1) fun j u c hj hc => ?_, by simpa [vb, vbs_map] using hbk⟩
    rw [List.getElem?_map, Option.map_eq_some_iff] at hc
    obtain ⟨x, hx, rfl⟩ := hc
    exact .t (h1.2 j u x (by simpa [Value.cells] using hj) hx)
  · simp only [hag, if_false, Bool.false_eq_true]
    have hcells : v.cells = #[v] := by
      unfold isAggT at hag
      unfold Value.okWide at hok
      cases hu : P.underlying t with
      | none => rw [hu] at hpt; simp at hpt
      | some td =>
        rw [hu] at hag hok hpt
        cases td <;> simp at hag hpt <;> simp only [Cell.okWide, Cell.ok, hu] at hok <;> cases v <;> first | rfl | (exact hok.elim)
    have hcl : ts.length = 1 := by rw [← h1.1, hcells]; rfl
    obtain ⟨x, rfl⟩ : ∃ x, ts = [x] := by
      match ts, hcl with
      | [x], _ => exact ⟨x, rfl⟩
    exact ⟨.t (h1.2 0 v x (by rw [hcells]; rfl) rfl), by simpa [vb, bulkL] using hbk⟩

theorem args_relB (hB : Bulk B) (hp : plainT P S = true) {base : Nat} : ∀ (ts : List TypeId) (args : List Value) (ds : List (DataW H)) (ps : List MemPlace), (∀ t ∈ ts, t ∈ S) → (∀ (j : Nat) t v, ts[j]? = some t → args[j]? = some v → Value.okWide P w .any base t v) →
    DataW.TrodAll enc P w 0 sp held ts args ds ps → (DataW.weightsEach P ts ds).all (· ≤ reachBytes) = true → ∃ vs, WTs P ts vs ∧ args.length = vs.length ∧ (vs.map vb).sum ≤ (ds.map B).sum ∧ ∀ (j : Nat) (v : Value) (x : V), args[j]? = some v → vs[j]? = some x → RelV (L.all w) v x
  | [], [], [], ps, _, _, _, _ => ⟨[], .nil, rfl, by simp, by simp⟩
  | t :: ts, v :: args, d :: ds, ps, hS, hok, ⟨p, q, h1, h2, _⟩, hwt => by
    simp only [DataW.weightsEach, List.all_append, Bool.and_eq_true] at hwt
    obtain ⟨vs, k1, k2, k4, k3⟩ := args_relB hB hp ts args ds q (fun t ht => hS t (List.mem_cons_of_mem _ ht)) (fun j t v a b => hok (j + 1) t v (by simpa using a) (by simpa using b)) h2 hwt.2
    obtain ⟨n, xs, g1, g2, g3⟩ := arg_relB hB hp (hS t (by simp)) (hok 0 t v rfl rfl) h1 hwt.1
    refine ⟨argV P t xs :: vs, .cons g1 k1, by simp [k2], by simp only [List.map_cons, List.sum_cons]; omega, fun j u x hu hx => ?_⟩
    cases j with
    | zero => simp at hu hx; subst hu; subst hx; exact g2
    | succ j => exact k3 j u x (by simpa using hu) (by simpa using hx)
  | [], _ :: _, _, _, _, _, h, _ => by simp [DataW.TrodAll] at h
  | [], [], _ :: _, _, _, _, h, _ => by simp [DataW.TrodAll] at h
  | _ :: _, [], _, _, _, _, h, _ => by simp [DataW.TrodAll] at h
  | _ :: _, _ :: _, [], _, _, _, h, _ => by simp [DataW.TrodAll] at h

end

section
variable {H : Type} {enc : TypeId × Value → H} {P : Program}
/-- A law's contract, as its row wants it. -/
theorem law_contractB {B : DataW H → Nat} {N : Nat} (hB : Bulk B) {S : List TypeId} {f : FuncId} {fn : Func} {s : ChangeSpec} {tb : TypeId} {apart fresh handsOn again : Bool} (hp : plainT P S = true) (hl : laidOutB P = true) (hT : ∀ t ∈ fn.params.toList, t ∈ S ∧ P.readableRec t = true ∧ t < P.types.size)
    (hrt : fn.resultTypes = #[tb]) (hb : P.underlying tb = some .bool) (hv : s.vars = []) (hs : ∀ ds : List (DataW H), ds.length = fn.params.size → s.fn H ds = { results := [.lit (.bool true)], args := ds })
    (W : World) (base : Nat) (args : Array Value) (ds gs : List (DataW H)) (before : List MemPlace)
    (hval : ∀ (j : Nat) t v, fn.params[j]? = some t → args[j]? = some v → Value.okWide P W .any base t v)
    (hW : DataW.Whole enc P fn.params.toList s.vars apart W args.toList ds gs before)
    (hwt : (DataW.weightsEach P (fn.params.toList ++ s.plain.varTypes P) (ds ++ gs)).all (· ≤ reachBytes) = true)
    (hbk : (ds.map B).sum ≤ N) (hok : ∀ vs, WTs P fn.params.toList vs → (vs.map vb).sum ≤ N → FnOk P f vs ⟨[], 0⟩ { v := .t (.bool true) }) :
    Calls P f args W fun e W' => ∃ v, e = .returned v ∧ s.post enc P fn apart fresh handsOn again W args v W' := by
  have hW' := hW
  obtain ⟨p, q, hA, hV, rfl, hfz, hnd⟩ := hW
  rw [hv] at hV
  obtain ⟨rfl, rfl⟩ := trodVars_none hV
  have hdl : ds.length = fn.params.size := by
    have : ∀ (ts : List TypeId) (vs : List Value) (ds : List (DataW H)) (ps : List MemPlace), DataW.TrodAll enc P W 0 (fun _ => true) true ts vs ds ps → ds.length = ts.length := by
      intro ts
      induction ts with
      | nil => intro vs ds ps h; cases vs <;> cases ds <;> simp_all [DataW.TrodAll]
      | cons t ts ih =>
        intro vs ds ps h
        cases vs with
        | nil => simp [DataW.TrodAll] at h
        | cons v vs =>
          cases ds with
          | nil => simp [DataW.TrodAll] at h
          | cons d ds => obtain ⟨p, q, _, h2, _⟩ := h; simp [ih vs ds q h2]
    simpa using this _ _ _ _ hA
  have hwt' : (DataW.weightsEach P fn.params.toList ds).all (· ≤ reachBytes) = true := by
    have happ : ∀ (ts us : List TypeId) (ds es : List (DataW H)), ts.length = ds.length → DataW.weightsEach P (ts ++ us) (ds ++ es) = DataW.weightsEach P ts ds ++ DataW.weightsEach P us es := by
      intro ts
      induction ts with
      | nil => intro us ds es h; cases ds with
        | nil => simp [DataW.weightsEach]
        | cons d ds => simp at h
      | cons t ts ih => intro us ds es h; cases ds with
        | nil => simp at h
        | cons d ds => simp only [List.cons_append, DataW.weightsEach, List.append_assoc]; rw [ih us ds es (by simpa using h)]
    rw [happ _ _ _ _ (by simpa using hdl.symm), List.all_append, Bool.and_eq_true] at hwt
    exact hwt.1
  obtain ⟨vs, k1, k2, k4, k3⟩ := args_relB hB hp _ _ _ _ (fun t ht => (hT t ht).1) (fun j t v a b => hval j t v (by simpa using a) (by simpa using b)) hA hwt'
  refine ((hok vs k1 (Nat.le_trans k4 hbk)).2 (L.all W) args (RelS.all W) rfl (by simpa using k2) (fun j v x a b => k3 j v x (by simpa using a) b)).mono fun e W' he => ?_
  obtain ⟨v, Λ', rfl, rfl, g1, g2, g3, g4⟩ := he
  have hvt := g4.repT.bool_inv
  subst hvt
  have hbel : Below W.heap.size W Λ'.w := ⟨g1.fr.os, g1.fr.tape, g1.fr.output, g1.fr.size, fun b hb => (g1.fr.fix b hb none rfl).2⟩
  have hsf := hs (ds ++ []) (by simpa using hdl)
  refine ⟨_, rfl, post_of_below (pa := p) (pv := []) (by simpa using hW') ?_ ?_ ?_ (by simp) hbel ?_⟩
  · intro b sp hd
    rw [hsf, hrt]
    exact ⟨[], [], ⟨1, by simp [DataW.trod, hb, Value.cells]⟩, rfl, rfl⟩
  · intro sp hsp
    rw [hsf]
    have hlt : ∀ x ∈ p, x.block < W.heap.size := fun x hx => hW'.lt x (by simpa using hx)
    simpa using trodAll_stays hl hbel _ _ _ _ (fun t ht => (hT t ht).2) hA hlt (fun x hx => hsp x (by simpa using hx))
  · intro sp hsp
    rw [hsf, hv]; rfl
  · intro j t r hj hr
    rw [hrt] at hj
    cases j with
    | zero =>
      simp at hj; subst hj
      simp [hrt, Value.resultList] at hr; subst hr
      simp [Value.okWide, Cell.okWide, Cell.ok, hb]
    | succ j => simp at hj
/-- 'law_contractB', its facts as Booleans -/
theorem law_okB {H : Type} {enc : TypeId × Value → H} {P : Program} {B : DataW H → Nat} {N : Nat} (hB : Bulk B) (S : List TypeId) {f : FuncId} {fn : Func} {s : ChangeSpec} {tb : TypeId} {apart fresh handsOn again : Bool} (hp : plainT P S = true) (hl : laidOutB P = true)
    (hT : (fn.params.toList.all fun t => S.contains t && P.readableRec t && decide (t < P.types.size)) = true)
    (hrt : fn.resultTypes = #[tb]) (hb : P.underlying tb = some .bool) (hv : s.vars = []) (hs : ∀ ds : List (DataW H), ds.length = fn.params.size → s.fn H ds = { results := [.lit (.bool true)], args := ds })
    (W : World) (base : Nat) (args : Array Value) (ds gs : List (DataW H)) (before : List MemPlace)
    (hval : ∀ (j : Nat) t v, fn.params[j]? = some t → args[j]? = some v → Value.okWide P W .any base t v)
    (hW : DataW.Whole enc P fn.params.toList s.vars apart W args.toList ds gs before)
    (hwt : (DataW.weightsEach P (fn.params.toList ++ s.plain.varTypes P) (ds ++ gs)).all (· ≤ reachBytes) = true)
    (hbk : (ds.map B).sum ≤ N) (hok : ∀ vs, WTs P fn.params.toList vs → (vs.map vb).sum ≤ N → FnOk P f vs ⟨[], 0⟩ { v := .t (.bool true) }) :
    Calls P f args W fun e W' => ∃ v, e = .returned v ∧ s.post enc P fn apart fresh handsOn again W args v W' := by
  refine law_contractB hB (S := S) hp hl (fun t ht => ?_) hrt hb hv hs W base args ds gs before hval hW hwt hbk hok
  rw [List.all_eq_true] at hT
  have := hT t ht
  simp only [Bool.and_eq_true, decide_eq_true_eq, List.contains_iff_mem] at this
  exact ⟨this.1.1, this.1.2, this.2⟩

end
end Go.GB

/-
  D11X: plain law of AbstractFields.
-/
namespace Go.GB.C11
open Go.GB
set_option linter.unusedSimpArgs false
set_option linter.unusedVariables false
set_option maxRecDepth 100000
set_option maxHeartbeats 2000000

/- sizes -/
def wF : List Field → Nat
  | [] => 0
  | f :: r => f.args.length + f.dirs.length + wF r
def wD (d : Def) : Nat := 1 + d.fields.length + d.members.length + d.inputs.length + d.dirs.length + d.implements.length + wF d.fields
def wDs : List Def → Nat
  | [] => 0
  | d :: r => wD d + wDs r
theorem bulkLL_len {α : Type} (f : α → List T) (hf : ∀ x, 1 ≤ bulkL (f x)) : ∀ l : List α, l.length ≤ bulkLL (l.map f)
  | [] => by simp
  | x :: r => by
    have := hf x; have := bulkLL_len f hf r
    simp only [List.map_cons, bulkLL, List.length_cons]; omega
theorem bulk_pos (x : T) : 1 ≤ x.bulk := by cases x <;> simp [T.bulk]
theorem bulkL_cons (x : T) (r : List T) : 1 ≤ bulkL (x :: r) := by have := bulk_pos x; simp only [bulkL]; omega
theorem wF_bulk : ∀ l : List Field, l.length + wF l ≤ bulkLL (l.map Field.enc)
  | [] => by simp [wF]
  | f :: r => by
    have := wF_bulk r
    have h1 := bulkLL_len Input.enc (fun x => bulkL_cons _ _) f.args
    have h2 := bulkLL_len Dir.enc (fun x => bulkL_cons _ _) f.dirs
    simp only [List.map_cons, bulkLL, List.length_cons, wF, Field.enc, bulkL, T.bulk]; omega
theorem wD_bulk (d : Def) : wD d ≤ bulkL d.enc := by
  have h1 := wF_bulk d.fields
  have h2 := bulkLL_len Member.enc (fun x => bulkL_cons _ _) d.members
  have h3 := bulkLL_len Input.enc (fun x => bulkL_cons _ _) d.inputs
  have h4 := bulkLL_len Dir.enc (fun x => bulkL_cons _ _) d.dirs
  have h5 := bulkLL_len sE (fun x => bulkL_cons _ _) d.implements
  simp only [wD, Def.enc, bulkL, T.bulk]; omega
theorem wDs_bulk : ∀ ds : List Def, wDs ds ≤ bulkLL (ds.map Def.enc)
  | [] => by simp [wDs]
  | d :: r => by have := wD_bulk d; have := wDs_bulk r; simp only [wDs, List.map_cons, bulkLL]; omega
theorem wrapS (x : Int) (h1 : 0 ≤ x) (h2 : x ≤ 9000000000000) : IntKind.i64.wrap x = x := wrap64 (by omega) (by omega)
theorem lgFld_eq : ∀ (l : List Field) (n : Nat), n + wF l ≤ 1000000000 → l.foldl lgFld (n : Int) = ((n + wF l : Nat) : Int)
  | [], n, _ => by simp [wF]
  | f :: r, n, h => by
    simp only [wF] at h
    have e : lgFld (n : Int) f = ((n + (f.args.length + f.dirs.length) : Nat) : Int) := by
      unfold lgFld
      simp (disch := omega) only [wrapS]; omega
    rw [List.foldl_cons, e, lgFld_eq r _ (by omega)]
    simp only [wF]; congr 1; omega
theorem lgDef_eq (d : Def) (n : Nat) (h : n + wD d ≤ 1000000000) : lgDef (n : Int) d = ((n + wD d : Nat) : Int) := by
  simp only [wD] at h
  unfold lgDef
  simp (disch := omega) only [wrapS]
  rw [show ((n : Int) + (1 + (d.fields.length : Nat) + (d.members.length : Nat) + (d.inputs.length : Nat) + (d.dirs.length : Nat) + (d.implements.length : Nat))) = ((n + (1 + d.fields.length + d.members.length + d.inputs.length + d.dirs.length + d.implements.length) : Nat) : Int) by omega]
  rw [lgFld_eq _ _ (by omega)]
  simp only [wD]; congr 1; omega
theorem lgDs_eq : ∀ (l : List Def) (n : Nat), n + wDs l ≤ 1000000000 → l.foldl lgDef (n : Int) = ((n + wDs l : Nat) : Int)
  | [], n, _ => by simp [wDs]
  | d :: r, n, h => by
    simp only [wDs] at h
    rw [List.foldl_cons, lgDef_eq d n (by omega), lgDs_eq r _ (by omega)]
    simp only [wDs]; congr 1; omega
structure Small (ds : List Def) : Prop where
  l : ds.length ≤ 70
  w : wDs ds ≤ 1000
theorem small_of {ds : List Def} (hb : bulkLL (ds.map Def.enc) ≤ 1048576) (h : largeF ds = false) : Small ds := by
  have hw := wDs_bulk ds
  unfold largeF at h
  have e : ds.foldl lgDef 0 = ((wDs ds : Nat) : Int) := by
    have := lgDs_eq ds 0 (by omega)
    simpa using this
  rw [e] at h
  simp only [Bool.or_eq_false_iff, decide_eq_false_iff_not] at h
  exact ⟨by omega, by omega⟩
theorem wDs_mem : ∀ {ds : List Def} {d : Def}, d ∈ ds → wD d ≤ wDs ds
  | [], d, h => by cases h
  | x :: r, d, h => by
    simp only [wDs]
    rcases List.mem_cons.1 h with rfl | h
    · omega
    · have := wDs_mem h; omega
theorem wF_mem : ∀ {l : List Field} {f : Field}, f ∈ l → f.args.length ≤ wF l
  | [], d, h => by cases h
  | x :: r, d, h => by
    simp only [wF]
    rcases List.mem_cons.1 h with rfl | h
    · omega
    · have := wF_mem h; omega
theorem Small.d {ds : List Def} (h : Small ds) {d : Def} (hd : d ∈ ds) : wD d ≤ 1000 := Nat.le_trans (wDs_mem hd) h.w

/- how many violations -/
theorem inF_len (ds : List Def) (a b : Str) : ∀ (l p : List Input), (inF ds a b p l).length ≤ 3 * l.length
  | [], p => by simp [inF]
  | x :: r, p => by
    have h1 := inF_len ds a b r (p ++ [x])
    have h2 := namesF_len x.name false (findInput x.name p).isSome (a ++ x.name ++ b)
    simp only [inF, inOne, List.length_append, List.length_cons]
    split
    · simp only [List.length_cons, List.length_nil]; omega
    · split
      · simp only [List.length_cons, List.length_nil]; omega
      · simp only [List.length_nil]; omega
theorem fldL_len (ds : List Def) (n : Str) : ∀ (l p : List Field), (fldL ds n p l).length ≤ 3 * (l.length + wF l)
  | [], p => by simp [fldL]
  | x :: r, p => by
    have h1 := fldL_len ds n r (p ++ [x])
    have h2 := namesF_len x.name false (findField x.name p).isSome (n ++ [46] ++ x.name)
    have h3 := inF_len ds (n ++ [46] ++ x.name ++ [40]) [41] x.args []
    simp only [fldL, fldOne, List.length_append, List.length_cons, wF]
    split
    · simp only [List.length_cons, List.length_nil]; omega
    · split
      · simp only [List.length_cons, List.length_nil]; omega
      · simp only [List.length_nil]; omega
theorem memL_len (n : Str) : ∀ (l p : List Member), (memL n p l).length ≤ 2 * l.length
  | [], p => by simp [memL]
  | x :: r, p => by
    have h1 := memL_len n r (p ++ [x])
    have h2 := namesF_len x.name (memBad x.name) (memF p x.name) (n ++ [46] ++ x.name)
    simp only [memL, List.length_append, List.length_cons]; omega
theorem wholeF_len (ds : List Def) (i : Nat) (d : Def) : (wholeF ds i d).length ≤ 5 := by
  have := namesF_len d.name false (twiceF ds i d.name) d.name
  unfold wholeF
  simp only [List.length_append]
  split <;> split <;> split <;> simp <;> omega
theorem chkL_len (ds : List Def) : ∀ (l : List Def) (i : Nat), (chkL ds i l).length ≤ 5 * l.length + 3 * wDs l
  | [], i => by simp [chkL]
  | d :: r, i => by
    have h1 := chkL_len ds r (i + 1)
    have h2 := wholeF_len ds i d
    have h3 : (chkK ds d).length ≤ 3 * wD d := by
      have a1 := fldL_len ds d.name d.fields []
      have a2 := memL_len d.name d.members []
      have a3 := inF_len ds (d.name ++ [46]) [] d.inputs []
      unfold chkK wD
      split
      · omega
      · split
        · omega
        · split
          · omega
          · split
            · omega
            · simp
    simp only [chkL, List.length_append, List.length_cons, wDs]; omega
theorem check_len {ds : List Def} (h : Small ds) (q : Bool) : (checkF ds q).length ≤ 4398046511104 := by
  have h1 := chkL_len ds ds 0
  have h2 := h.l
  have h3 := h.w
  unfold checkF chkQ
  rw [List.length_append]
  split <;> simp <;> omega
theorem argsA_len (y : Field) (a : Str) : ∀ l : List Input, (argsA y a l).length ≤ l.length
  | [] => by simp [argsA]
  | x :: r => by
    have := argsA_len y a r
    simp only [argsA]; split <;> simp <;> omega
theorem argsB_len (y : Field) (a : Str) : ∀ l : List Input, (argsB y a l).length ≤ l.length
  | [] => by simp [argsB]
  | x :: r => by
    have := argsB_len y a r
    simp only [argsB]; split <;> simp <;> omega
theorem faceF_len (ds : List Def) (t : Def) (ht : ∀ y, y ∈ t.fields → y.args.length ≤ 1000) : ∀ l : List Field, (∀ x, x ∈ l → x.args.length ≤ 1000) → (faceF ds t l).length ≤ 2001 * l.length
  | [], _ => by simp [faceF]
  | x :: r, h => by
    have h1 := faceF_len ds t ht r (fun y hy => h y (List.mem_cons_of_mem _ hy))
    have h2 := h x (by simp)
    have h3 : (fldF ds t x).length ≤ 2001 := by
      unfold fldF
      cases hf : findField x.name t.fields with
      | none => simp
      | some y =>
        have a1 := argsA_len y (atF t x) x.args
        have a2 := argsB_len x (atF t x) y.args
        have a3 := ht y (findField_mem hf)
        simp only [List.length_append]
        split <;> simp <;> omega
    simp only [faceF, List.length_append, List.length_cons]; omega
theorem wD_fields {d : Def} (h : wD d ≤ 1000) : d.fields.length ≤ 1000 ∧ ∀ y, y ∈ d.fields → y.args.length ≤ 1000 := by
  unfold wD at h
  exact ⟨by omega, fun y hy => by have := wF_mem hy; omega⟩
theorem find_small {ds : List Def} (h : Small ds) (n : Str) : wD ((findDef n ds).getD Def.zero) ≤ 1000 := by
  cases hf : findDef n ds with
  | none => simp [wD, Def.zero, wF]
  | some o => exact h.d (findDef_mem hf)
theorem objL_len {ds : List Def} (h : Small ds) {t : Def} (ht : t ∈ ds) : ∀ (l p : List Str), (objL ds t p l).length ≤ 2001001 * l.length
  | [], p => by simp [objL]
  | n :: r, p => by
    have h1 := objL_len h ht r (p ++ [n])
    have h2 := wD_fields (find_small h n)
    have h3 := faceF_len ds t (wD_fields (h.d ht)).2 ((findDef n ds).getD Def.zero).fields h2.2
    simp only [objL, List.length_append, List.length_cons]
    split
    · omega
    · simp only [List.length_cons, List.length_nil]; omega
theorem unL_len (ds : List Def) (t : Def) : ∀ (l p : List Member), (unL ds t p l).length ≤ l.length
  | [], p => by simp [unL]
  | m :: r, p => by
    have h1 := unL_len ds t r (p ++ [m])
    simp only [unL, List.length_append, List.length_cons]
    split <;> simp <;> omega
theorem facesL_len {ds : List Def} (h : Small ds) : ∀ l : List Def, (∀ d, d ∈ l → d ∈ ds) → (facesL ds l).length ≤ 2001001000 * l.length
  | [], _ => by simp [facesL]
  | t :: r, hl => by
    have h1 := facesL_len h r (fun d hd => hl d (List.mem_cons_of_mem _ hd))
    have ht := hl t (by simp)
    have h2 := objL_len h ht t.implements []
    have h3 := unL_len ds t t.members []
    have h4 := h.d ht
    unfold wD at h4
    simp only [facesL, List.length_append, List.length_cons, objF]
    split
    · omega
    · split
      · omega
      · simp only [List.length_nil]; omega
theorem faces_len {ds : List Def} (h : Small ds) : (facesF ds).length ≤ 4398046511104 := by
  have h1 := facesL_len h ds (fun _ hd => hd)
  have h2 := h.l
  unfold facesF; omega

/- what no violations mean -/
theorem chkL_nil {ds : List Def} : ∀ {l : List Def} {i : Nat}, chkL ds i l = [] → ∀ j d, l[j]? = some d → wholeF ds (i + j) d = []
  | [], i, _, j, d, h => by simp at h
  | x :: r, i, hc, j, d, h => by
    simp only [chkL, List.append_eq_nil_iff] at hc
    cases j with
    | zero => simp at h; subst h; exact hc.1.1
    | succ j =>
      have := chkL_nil hc.2 j d (by simpa using h)
      rwa [show i + (j + 1) = i + 1 + j by omega]
theorem whole_nil {ds : List Def} {i : Nat} {d : Def} (h : wholeF ds i d = []) : allowedF d.name = true ∧ twiceF ds i d.name = false := by
  unfold wholeF namesF at h
  simp only [List.append_eq_nil_iff] at h
  refine ⟨?_, ?_⟩
  · have := h.1.1.1.1
    split at this
    · cases this
    · rename_i hn; simpa using hn
  · have := h.1.1.1.2
    split at this
    · cases this
    · rename_i hn; simpa using hn
theorem check_find {ds : List Def} {q : Bool} (h : checkF ds q = []) {d : Def} (hd : d ∈ ds) : findDef d.name ds = some d ∧ allowedF d.name = true := by
  unfold checkF at h
  simp only [List.append_eq_nil_iff] at h
  obtain ⟨i, hi⟩ := List.mem_iff_getElem?.1 hd
  obtain ⟨h1, h2⟩ := whole_nil (chkL_nil h.1 i d hi)
  refine ⟨find_first hi ?_, h1⟩
  unfold twiceF at h2
  simp only [Bool.or_eq_false_iff] at h2
  unfold firstF
  have := h2.2
  simp only [Nat.zero_add] at this
  rw [this]; rfl
theorem facesL_nil {ds : List Def} : ∀ {l : List Def}, facesL ds l = [] → ∀ t, t ∈ l → t.kind = 1 → objF ds t = []
  | [], _, t, h, _ => by cases h
  | x :: r, hf, t, h, hk => by
    simp only [facesL, List.append_eq_nil_iff] at hf
    rcases List.mem_cons.1 h with rfl | h
    · have := hf.1; rwa [if_pos hk] at this
    · exact facesL_nil hf.2 t h hk
theorem objL_nil {ds : List Def} {t : Def} : ∀ {l p : List Str}, objL ds t p l = [] → ∀ n, n ∈ l → faceF ds t ((findDef n ds).getD Def.zero).fields = []
  | [], p, _, n, h => by cases h
  | x :: r, p, hf, n, h => by
    simp only [objL, List.append_eq_nil_iff] at hf
    rcases List.mem_cons.1 h with rfl | h
    · have := hf.1
      split at this
      · exact this
      · cases this
    · exact objL_nil hf.2 n h
theorem faceF_nil {ds : List Def} {t : Def} : ∀ {l : List Field}, faceF ds t l = [] → ∀ x, x ∈ l → ∃ y, findField x.name t.fields = some y ∧ subTy ds y.ty x.ty = true
  | [], _, x, h => by cases h
  | z :: r, hf, x, h => by
    simp only [faceF, List.append_eq_nil_iff] at hf
    rcases List.mem_cons.1 h with rfl | h
    · have := hf.1
      unfold fldF at this
      cases hy : findField x.name t.fields with
      | none => rw [hy] at this; cases this
      | some y =>
        rw [hy] at this
        simp only [List.append_eq_nil_iff] at this
        refine ⟨y, rfl, ?_⟩
        have h1 := this.1
        split at h1
        · assumption
        · cases h1
    · exact faceF_nil hf.2 x h
theorem fields_law {ds : List Def} (hc : checkF ds false = []) (hf : facesF ds = []) {t : Def} (ht : t ∈ ds) (hk : t.kind = 2) {p : Str} (hp : p ∈ posF ds t.name) {x : Field} (hx : x ∈ t.fields) :
    ∃ y, findField x.name ((findDef p ds).getD Def.zero).fields = some y ∧ subTy ds y.ty x.ty = true := by
  have hft := (check_find hc ht).1
  rw [posF_eq, hft] at hp
  obtain ⟨o, h1, h2, h3, h4, _⟩ := posL_mem hp
  have hfo := (check_find hc h1).1
  rw [h2] at hfo
  rw [hfo]
  simp only [Option.getD_some] at h4 ⊢
  have hi : t.name ∈ o.implements := by
    simp only [isP, hk] at h4
    simpa using h4
  have ho := facesL_nil hf o h1 h3
  have hq := objL_nil ho t.name hi
  rw [hft] at hq
  exact faceF_nil hq x hx
end Go.GB.C11

/-
  D11Y: chapter 11's law: Fields.
-/
namespace Go.GB.C11
open Go.GB
set_option linter.unusedSimpArgs false
set_option linter.unusedVariables false
set_option maxRecDepth 100000
set_option maxHeartbeats 2000000
variable {P : Program}

theorem small_in {ds : List Def} (hS : Small ds) : ∀ o, o ∈ ds → o.inputs.length ≤ 2199023255552 := by
  intro o ho
  have := hS.d ho
  unfold wD at this; omega
theorem abstractFields_ok (H : Pr P) (ds : List Def) (hD : DocOk ds) (hb : bulkLL (ds.map Def.enc) ≤ 1048576) : FnOk P 15 [docV ds] ⟨[], 0⟩ { v := .t (.bool true) } := by
  have hdl := hD.l
  refine FnOk.run H.i15 H.mixed rfl rfl ?_
  refine fR rfl ?_
  refine Mid.call (large_ok H ds hD) rfl rfl rfl rfl ?_
  refine fM rfl ?_
  cases hL : largeF ds with
  | true =>
    refine Mid.grdF rfl rfl rfl rfl rfl ?_
    refine Mid.grdF rfl rfl rfl rfl rfl ?_
    refine Mid.grdF rfl rfl rfl rfl rfl ?_
    refine fM rfl ?_
    refine Mid.grdF rfl rfl rfl rfl rfl ?_
    refine Mid.grdF rfl rfl rfl rfl rfl ?_
    refine Mid.grdF rfl rfl rfl rfl rfl ?_
    refine fM rfl ?_
    refine Run.condT rfl rfl rfl ?_
    refine fR rfl ?_
    refine Mid.call (knows_ok H) rfl rfl rfl rfl ?_
    refine fM rfl ?_
    refine Run.fin rfl (EndOk.go ?_); exact .t rfl
  | false =>
    have hS := small_of hb hL
    have hcl := check_len hS false
    have hfl := faces_len hS
    refine Mid.ungd rfl rfl rfl ?_
    refine Mid.call (check_ok H ds hD (small_in hS) false hcl) rfl rfl rfl rfl ?_
    refine lMG rfl rfl rfl rfl ?_
    refine fM rfl ?_
    refine caG rfl rfl (fun hg => ⟨_, rfl, faces_ok H ds hD hfl, rfl⟩) rfl rfl ?_
    refine lMG rfl rfl rfl rfl ?_
    refine fM rfl ?_
    refine Run.cond rfl rfl (fun hg => ?_) (fun hg => ?_)
    · refine fR rfl ?_
      refine Mid.call (knows_ok H) rfl rfl rfl rfl ?_
      refine fM rfl ?_
      refine Run.fin rfl (EndOk.go ?_); exact .t rfl
    · have hc : checkF ds false = [] := by
        cases hx : checkF ds false with
        | nil => rfl
        | cons a r => rw [hx] at hg; simp at hg
      have hf : facesF ds = [] := by
        cases hx : facesF ds with
        | nil => rfl
        | cons a r => rw [hx] at hg; simp at hg <;> omega
      refine fR rfl ?_
      refine rList ds (fun i (_ : Unit) => { env := [(1, .ptr 0 0), (3, .t (.int .i64 i))], s := ⟨[(0, .cells [.t (.lst (ds.map Def.enc))])], 1⟩ }) (fun r i _ => True) 1 () rfl trivial rfl rfl rfl ?_ ?_
      · intro _ _
        refine fR rfl ?_
        refine lM rfl rfl rfl ?_
        refine fM rfl ?_
        refine Run.condF rfl rfl (by simp) ?_
        refine fR rfl ?_
        refine Mid.call (knows_ok H) rfl rfl rfl rfl ?_
        refine fM rfl ?_
        refine Run.fin rfl (EndOk.go ?_); exact .t rfl
      · intro i t r _ h1 hi hdr _ ih
        have htm := List.mem_of_getElem? h1
        have hto := hD.d t htm
        have htfl := hto.fl
        refine fR rfl ?_
        refine lM rfl rfl rfl ?_
        refine fM rfl ?_
        refine Run.condT rfl rfl (by simp; omega) ?_
        refine fR rfl ?_
        refine Mid.elemMap rfl rfl rfl h1 rfl rfl ?_
        refine fM rfl ?_
        refine Run.cond rfl rfl (fun hk => ?_) (fun hk => ?_)
        · refine fR rfl ?_
          refine aL rfl rfl rfl rfl rfl ?_
          refine fM rfl ?_
          exact rWeak 1 rfl (ih () trivial) rfl rfl rfl
        · have hk' : t.kind = 2 := by simpa using hk
          have hpl := posF_len ds t.name
          refine fR rfl ?_
          refine Mid.call (possible_ok H ds hD t.name) rfl rfl rfl rfl ?_
          refine fM rfl ?_
          refine rList (posF ds t.name) (fun j (_ : Unit) => { env := [(1, .ptr 0 0), (3, .t (.int .i64 i)), (4, .ptr 1 0), (5, .t (.lst ((posF ds t.name).map sE))), (6, .t (.int .i64 j))], s := ⟨[(0, .cells [.t (.lst (ds.map Def.enc))]), (1, .cells [.t (.int .i64 t.kind), .t (.str t.name), .t (.lst (t.implements.map sE)), .t (.lst (t.dirs.map Dir.enc)), .t (.lst (t.fields.map Field.enc)), .t (.lst (t.members.map Member.enc)), .t (.lst (t.inputs.map Input.enc))])], 2⟩ }) (fun r2 j _ => True) 2 () rfl trivial rfl rfl rfl ?_ ?_
          · intro _ _
            refine fR rfl ?_
            refine lM rfl rfl rfl ?_
            refine fM rfl ?_
            refine Run.condF rfl rfl (by simp) ?_
            refine fR rfl ?_
            refine aL rfl rfl rfl rfl rfl ?_
            refine fM rfl ?_
            exact rWeak 1 rfl (ih () trivial) rfl rfl rfl
          · intro j p r2 _ h2 hj hjd _ ih2
            have hpm := List.mem_of_getElem? h2
            have hF := docFind hD p
            have hFl := hF.fl
            refine fR rfl ?_
            refine lM rfl rfl rfl ?_
            refine fM rfl ?_
            refine Run.condT rfl rfl (by simp; omega) ?_
            refine fR rfl ?_
            refine Mid.elemMap rfl rfl rfl h2 rfl rfl ?_
            refine fM rfl ?_
            refine Mid.call (rFind_ok H ds hdl p) rfl rfl rfl rfl ?_
            refine fM rfl ?_
            have hlaw := fun x => @fields_law ds hc hf t htm hk' p hpm x
            generalize (findDef p ds).getD Def.zero = o at hF hFl hlaw
            refine rList t.fields (fun k (_ : Unit) => { env := [(1, .ptr 0 0), (3, .t (.int .i64 i)), (4, .ptr 1 0), (5, .t (.lst ((posF ds t.name).map sE))), (6, .t (.int .i64 j)), (7, .ptr 2 0), (9, .t (.int .i64 k))], s := ⟨[(0, .cells [.t (.lst (ds.map Def.enc))]), (1, .cells [.t (.int .i64 t.kind), .t (.str t.name), .t (.lst (t.implements.map sE)), .t (.lst (t.dirs.map Dir.enc)), .t (.lst (t.fields.map Field.enc)), .t (.lst (t.members.map Member.enc)), .t (.lst (t.inputs.map Input.enc))]), (2, .cells [.t (.int .i64 o.kind), .t (.str o.name), .t (.lst (o.implements.map sE)), .t (.lst (o.dirs.map Dir.enc)), .t (.lst (o.fields.map Field.enc)), .t (.lst (o.members.map Member.enc)), .t (.lst (o.inputs.map Input.enc))])], 3⟩ }) (fun r3 k _ => True) 3 () rfl trivial rfl rfl rfl ?_ ?_
            · intro _ _
              refine fR rfl ?_
              refine lM rfl rfl rfl ?_
              refine fM rfl ?_
              refine Run.condF rfl rfl (by simp) ?_
              refine fR rfl ?_
              refine aL rfl rfl rfl rfl rfl ?_
              refine fM rfl ?_
              exact rWeak 2 rfl (ih2 () trivial) rfl rfl rfl
            · intro k x r3 _ h3 hkk hkd _ ih3
              have hxm := List.mem_of_getElem? h3
              have hxo := hto.f x hxm
              obtain ⟨y, hy1, hy2⟩ := hlaw x hxm
              have hyo := hF.f y (findField_mem hy1)
              have hcall := rFieldOf_ok H o hFl x.name
              rw [hy1] at hcall
              have hsub := subTy_ok H ds hD y.ty x.ty hyo.t hxo.t
              rw [hy2] at hsub
              refine fR rfl ?_
              refine lM rfl rfl rfl ?_
              refine fM rfl ?_
              refine Run.condT rfl rfl (by simp; omega) ?_
              refine fR rfl ?_
              refine Mid.elemMap rfl rfl rfl h3 rfl rfl ?_
              refine fM rfl ?_
              refine Mid.call (hcall) rfl rfl rfl rfl ?_
              refine fM rfl ?_
              refine elG rfl rfl rfl rfl h3 rfl rfl ?_
              refine fM rfl ?_
              refine caG rfl rfl (fun hg => ⟨_, rfl, hsub, rfl⟩) rfl rfl ?_
              refine fM rfl ?_
              refine Run.condF rfl rfl rfl ?_
              refine fR rfl ?_
              refine aL rfl rfl rfl rfl rfl ?_
              refine fM rfl ?_
              exact rWeak 3 rfl (ih3 () trivial) rfl rfl rfl
end Go.GB.C11
